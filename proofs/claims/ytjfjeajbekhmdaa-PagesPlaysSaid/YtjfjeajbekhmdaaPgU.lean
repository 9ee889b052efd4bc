/- The document's Crash: the walk. -/
import Derived.Test.YtjfjeajbekhmdaaPgT
import Derived.Deep.QuietTactic
namespace Go.Proofs.Ytjfjeajbekhmdaa
open Go.RowKit Go.Maps
set_option linter.unusedVariables false
set_option linter.unusedSimpArgs false
theorem upto_at {α : Type} (n : Nat) (f f' : Nat → α) (j : Nat) (h : j < n) : (upto n f f' j)[j]? = some (f j) := by
  simp [upto, h]
/-- A page behind a crash, out of the document's three. -/
theorem after_page {d : Dsk} (hk : d.Ok) (keep : List Int) (torn : Int) {C : Nat} (hC : C ≤ 128) (j : Nat) :
    pad (d.after keep torn C j) = if (d.loose j).isSome then (if (j : Int) = torn then (pad (d.now j)).take C ++ (pad (d.kept.getD j [])).drop C else if (j : Int) ∈ keep then pad (d.now j) else pad (d.kept.getD j [])) else pad (d.kept.getD j []) := by
  unfold Dsk.after Dsk.now
  cases e : d.loose j with
  | none => simp
  | some s =>
    have hs := (hk.loose j s e).2
    have hl := pad_length (hk.keptAt j)
    simp only [Option.isSome_some, if_true]
    split
    · rw [pad_full hs, pad_full]
      rw [List.length_append, List.length_take, List.length_drop, hl]; omega
    · split <;> rfl
theorem str_cut (P Q : List UInt8) (C m : Nat) (hm : Q.length ≤ m) : (str P).extract 0 C ++ (str Q).extract C m = str (P.take C ++ Q.drop C) := by
  have h : ((str P).extract 0 C ++ (str Q).extract C m).data.toList = (str (P.take C ++ Q.drop C)).data.toList := by
    simp [str, ByteArray.data_extract, Array.toList_extract, List.extract_eq_take_drop]
    rw [List.take_of_length_le (by rw [List.length_drop]; omega)]
  cases hx : ((str P).extract 0 C ++ (str Q).extract C m) with
  | mk p => cases hy : str (P.take C ++ Q.drop C) with
    | mk q =>
      rw [hx, hy] at h
      exact congrArg ByteArray.mk (by cases p; cases q; exact congrArg Array.mk h)
theorem take_mem {l : List Int} {t : Nat} (ht : t < l.length) (x : Int) : decide (x ∈ l.take (t + 1)) = (decide (x ∈ l.take t) || (l[t] == x)) := by
  rw [List.take_succ_eq_append_getElem ht, Bool.eq_iff_iff, decide_eq_true_eq, List.mem_append, List.mem_singleton, Bool.or_eq_true, decide_eq_true_eq, beq_iff_eq, eq_comm (a := x)]
theorem crashed_nows (d : Dsk) (keep : List Int) (torn cut : Int) : (d.crashed keep torn cut).nows = (List.range d.kept.length).map fun i => pad (d.after keep torn (cutOf cut) i) := by
  show (List.range ((List.range d.kept.length).map (d.after keep torn (cutOf cut))).length).map (fun i => pad (((List.range d.kept.length).map (d.after keep torn (cutOf cut))).getD i [])) = _
  rw [List.length_map, List.length_range]
  exact map_range_congr _ _ _ fun i hi => by rw [getD_range _ _ _ _ hi]
theorem crashed_hads (d : Dsk) (keep : List Int) (torn cut : Int) : (d.crashed keep torn cut).hads = (List.range d.kept.length).map fun i => pad (d.after keep torn (cutOf cut) i) := by
  show (List.range ((List.range d.kept.length).map (d.after keep torn (cutOf cut))).length).map (fun i => pad (((List.range d.kept.length).map (d.after keep torn (cutOf cut))).getD i [])) = _
  rw [List.length_map, List.length_range]
  exact map_range_congr _ _ _ fun i hi => by rw [getD_range _ _ _ _ hi]
theorem crashed_iss (d : Dsk) (keep : List Int) (torn cut : Int) : (d.crashed keep torn cut).iss = (List.range d.kept.length).map fun _ => false := by
  show (List.range ((List.range d.kept.length).map (d.after keep torn (cutOf cut))).length).map (fun i => false) = _
  rw [List.length_map, List.length_range]
set_option maxRecDepth 100000 in
set_option maxHeartbeats 6400000 in
theorem rcrash_core (g a b c x y z n C : Nat) (fN fH fA : Nat → List UInt8) (fI : Nat → Bool) (left : Int) (off : Bool) (A : Option Addr) (cc : Nat) (keep : List Int) (torn cut M : Int) (w : World)
    (h : Rf w g a b c x y z n (upto n fN fA 0) (upto n fH fA 0) (upto n fI (fun _ => false) 0) left off) (hmost : n ≤ 4096)
    (hM1 : (if cut < 0 then (0 : Int) else cut) = M) (hM2 : (if 128 < M then 128 else M) = (C : Int)) (hC2 : C ≤ 128) (hPl : ∀ j, (fN j).length = 128) (hQl : ∀ j, (fH j).length = 128)
    (hA : ∀ j : Nat, fA j = if fI j then (if (j : Int) = torn then (fN j).take C ++ (fH j).drop C else if (j : Int) ∈ keep then fN j else fH j) else fH j)
    (hr : Lies w A (keep.map (Value.int .i64))) (hAk : ∀ p, A = some p → keep ≠ [] → p.block ∉ [g, a, b, c]) (hm : keep.length ≤ 9223372036854775807) :
    Calls Try.prog 27 #[.pointer (some ⟨g, 0, none⟩), .slice A keep.length cc, .int .i64 torn, .int .i64 cut] w fun e w' => e = .returned (.tuple #[]) ∧ Rf w' g a b c x y z n (upto n fN fA n) (upto n fH fA n) (upto n fI (fun _ => false) n) (-1) false ∧ Only w w' [g, a, b, c] := by
  have HR := Lib.hid hr
  have HA := Lib.hid hA
  have HP := Lib.hid hPl
  have HQ := Lib.hid hQl
  have k0 := h.c0
  have H0 := Lib.hid h
  clear hr hA hPl hQl h
  go_enter Try.func27, Try.ntmps27
  go_wp2_with fail
  go_loopg [21] n (fun r i wr => ∃ j : Nat, j + r = n ∧ i = .int .i64 j ∧ Rf wr g a b c x y z n (upto n fN fA j) (upto n fH fA j) (upto n fI (fun _ => false) j) left off ∧ Only w wr [g, a, b, c])
  case atStart => exact ⟨0, by omega, rfl, H0.out, Only.refl _ _⟩
  case round =>
    clear H0 k0
    obtain ⟨j, hj, rfl, hd, ho⟩ := hrel
    by_cases hjn : j < n
    · have hj0 : (0 : Int) ≤ (j : Int) := by omega
      have hj1 : (j : Int) < (n : Int) := by omega
      have hr2 := lies_only HR.out ho (fun a ha e0 => hAk a ha (fun e1 => e0 (by rw [e1]; rfl)))
      have HD := Lib.hid hd
      have HO := Lib.hid ho
      clear hd ho
      go_wp2_with fail
      obtain ⟨u9, hu9⟩ : ∃ v, v = wr := ⟨_, rfl⟩
      go_loopg [9, 26] keep.length (fun r s i w2 => ∃ t : Nat, t + r = keep.length ∧ i = .int .i64 t ∧ s = .bool (decide ((j : Int) ∈ keep.take t)) ∧ u9 = w2)
      case atStart => exact ⟨0, by omega, rfl, by simp, hu9⟩
      case round =>
        obtain ⟨t, ht, rfl, rfl, hw⟩ := hrel
        subst hw
        subst hu9
        by_cases htk : t < keep.length
        · obtain ⟨p, rfl, hc⟩ := hr2.at (k := t) (by simpa using htk)
          rw [List.getElem_map] at hc
          have HT := take_mem htk (j : Int)
          have ht0 : (0 : Int) ≤ (t : Int) := by omega
          have ht1 : (t : Int) < (keep.length : Int) := by omega
          generalize decide ((j : Int) ∈ keep.take t) = B at HT ⊢
          generalize keep[t] = kx at hc HT
          have HT2 := Lib.hid HT
          clear HT HD
          cases B with
          | true =>
            go_wp2
            go_roundg (keep.length - (t + 1))
            case measure => omega
            case rel => exact ⟨t + 1, by omega, by go_num, by rw [HT2.out]; rfl, rfl⟩
          | false =>
            go_wp2
            go_roundg (keep.length - (t + 1))
            case measure => omega
            case rel => exact ⟨t + 1, by omega, by go_num, by rw [HT2.out]; rfl, rfl⟩
        · obtain rfl : t = keep.length := by omega
          rw [List.take_length]
          have hd := HD.out
          have q0 := hd.c0
          have q1 := hd.c1
          have q2 := hd.c2
          have hga := hd.ga
          have hgb := hd.gb
          have hgc := hd.gc
          have hab := hd.ab
          have hac := hd.ac
          have hbc := hd.bc
          have qn := World.ownsRow.cellAt hd.rn j (by omega)
          rw [List.getElem?_map, upto_at _ _ _ _ hjn] at qn
          have qh := World.ownsRow.cellAt hd.rh j (by omega)
          rw [List.getElem?_map, upto_at _ _ _ _ hjn] at qh
          have qi := World.ownsRow.cellAt hd.ri j (by omega)
          rw [List.getElem?_map, upto_at _ _ _ _ hjn] at qi
          simp only [Option.map_some] at qn qh qi
          unfold vs at qn qh
          have fa := World.ownsRow.frozenAt hd.rn j
          have fb := World.ownsRow.frozenAt hd.rh j
          have fc := World.ownsRow.frozenAt hd.ri j
          have hF : ∀ W X, Below u9.heap.size u9 W → X = str (fA j) → Rf (((W.setCell ⟨a, j, none⟩ (.string X)).setCell ⟨b, j, none⟩ (.string X)).setCell ⟨c, j, none⟩ (.bool false)) g a b c x y z n (upto n fN fA (j + 1)) (upto n fH fA (j + 1)) (upto n fI (fun _ => false) (j + 1)) left off ∧ Only u9 (((W.setCell ⟨a, j, none⟩ (.string X)).setCell ⟨b, j, none⟩ (.string X)).setCell ⟨c, j, none⟩ (.bool false)) [g, a, b, c] := by
            rintro W X hbW rfl
            have s1 := (hd.below hbW).setN j (fA j)
            have s2 := s1.1.setH j (fA j)
            have s3 := s2.1.setI j false
            have e3 := upto_step n fI (fun _ => false) j
            try simp only at e3
            rw [← upto_step, ← upto_step, ← e3] at s3
            exact ⟨s3.1, ((((Only.of_below hbW [g, a, b, c]).trans (s1.2.mono (fun i h => by simp at h; simp [h]))).trans (s2.2.mono (fun i h => by simp at h; simp [h]))).trans (s3.2.mono (fun i h => by simp at h; simp [h])))⟩
          have HF := Lib.hid hF
          have hA := HA.out j
          have hp1 := HP.out j
          have hq1 := HQ.out j
          have HSC := Lib.hid (str_cut (fN j) (fH j) C 128 (by rw [hq1]; exact Nat.le_refl _))
          have hC0 : (0 : Int) ≤ (C : Int) := by omega
          have hC3 : (C : Int) ≤ 128 := by omega
          obtain ⟨SP, hSP⟩ : ∃ S, S = str (fN j) := ⟨_, rfl⟩
          obtain ⟨SQ, hSQ⟩ : ∃ S, S = str (fH j) := ⟨_, rfl⟩
          have hSPs : SP.size = 128 := by rw [hSP, str_size, hp1]
          have hSQs : SQ.size = 128 := by rw [hSQ, str_size, hq1]
          rw [← hSP, ← hSQ] at HSC
          rw [← hSP] at qn
          rw [← hSQ] at qh
          obtain ⟨E1, hE1⟩ : ∃ E, SP.extract 0 C = E := ⟨_, rfl⟩
          obtain ⟨E2, hE2⟩ : ∃ E, SQ.extract C 128 = E := ⟨_, rfl⟩
          have hs1 : E1.size = C := by rw [← hE1, ByteArray.size_extract, hSPs]; omega
          obtain ⟨R, hR⟩ : ∃ R, R = 128 - C := ⟨_, rfl⟩
          have hs2 : E2.size = R := by rw [← hE2, ByteArray.size_extract, hSQs]; omega
          have hsum : C + R = 128 := by omega
          rw [hE1, hE2] at HSC
          have HSP := Lib.hid hSP
          have HSQ := Lib.hid hSQ
          clear hF hd HD hr2 hp1 hq1 hSP hSQ hR
          by_cases htn : (j : Int) = torn
          · rw [if_pos htn] at hA
            have hqt : ((j : Int) == torn) = true := by rw [beq_iff_eq]; exact htn
            cases hfi : fI j with
            | false =>
              rw [hfi] at hA qi
              have HXc := Lib.hid (show SQ = str (fA j) by rw [HSQ.out, hA]; rfl)
              clear hA hfi htn
              generalize decide ((j : Int) ∈ keep) = st
              cases st
              all_goals go_wp2_with fail
              all_goals try go_quiet (fail)
              all_goals try go_wp2
              all_goals go_roundg (n - (j + 1))
              all_goals try omega
              all_goals exact ⟨j + 1, by omega, by go_num, (HF.out _ _ (by first | exact Below.refl _ _ | exact below_drewN (Below.refl _ _) _) HXc.out).1, HO.out.trans (HF.out _ _ (by first | exact Below.refl _ _ | exact below_drewN (Below.refl _ _) _) HXc.out).2⟩
            | true =>
              rw [hfi] at hA qi
              have HXc := Lib.hid (show E1 ++ E2 = str (fA j) by rw [HSC.out, hA]; rfl)
              clear hA hfi htn
              generalize decide ((j : Int) ∈ keep) = st
              cases st
              all_goals go_wp2_with fail
              all_goals try go_quiet (fail)
              all_goals try go_wp2
              all_goals go_roundg (n - (j + 1))
              all_goals try omega
              all_goals exact ⟨j + 1, by omega, by go_num, (HF.out _ _ (by first | exact Below.refl _ _ | exact below_drewN (Below.refl _ _) _) HXc.out).1, HO.out.trans (HF.out _ _ (by first | exact Below.refl _ _ | exact below_drewN (Below.refl _ _) _) HXc.out).2⟩
          · rw [if_neg htn] at hA
            have hqt : ((j : Int) == torn) = false := by rw [beq_eq_false_iff_ne]; exact htn
            cases hfi : fI j with
            | false =>
              rw [hfi] at hA qi
              have HXc := Lib.hid (show SQ = str (fA j) by rw [HSQ.out, hA]; rfl)
              clear hA hfi htn
              generalize decide ((j : Int) ∈ keep) = st
              cases st
              all_goals go_wp2_with fail
              all_goals try go_quiet (fail)
              all_goals try go_wp2
              all_goals go_roundg (n - (j + 1))
              all_goals try omega
              all_goals exact ⟨j + 1, by omega, by go_num, (HF.out _ _ (by first | exact Below.refl _ _ | exact below_drewN (Below.refl _ _) _) HXc.out).1, HO.out.trans (HF.out _ _ (by first | exact Below.refl _ _ | exact below_drewN (Below.refl _ _) _) HXc.out).2⟩
            | true =>
              rw [hfi] at hA qi
              by_cases hke : (j : Int) ∈ keep
              · rw [if_pos hke] at hA
                rw [decide_eq_true hke]
                have HXc := Lib.hid (show SP = str (fA j) by rw [HSP.out, hA]; rfl)
                clear hA hfi htn hke
                all_goals go_wp2_with fail
                all_goals try go_quiet (fail)
                all_goals try go_wp2
                all_goals go_roundg (n - (j + 1))
                all_goals try omega
                all_goals exact ⟨j + 1, by omega, by go_num, (HF.out _ _ (by first | exact Below.refl _ _ | exact below_drewN (Below.refl _ _) _) HXc.out).1, HO.out.trans (HF.out _ _ (by first | exact Below.refl _ _ | exact below_drewN (Below.refl _ _) _) HXc.out).2⟩
              · rw [if_neg hke] at hA
                rw [decide_eq_false hke]
                have HXc := Lib.hid (show SQ = str (fA j) by rw [HSQ.out, hA]; rfl)
                clear hA hfi htn hke
                all_goals go_wp2_with fail
                all_goals try go_quiet (fail)
                all_goals try go_wp2
                all_goals go_roundg (n - (j + 1))
                all_goals try omega
                all_goals exact ⟨j + 1, by omega, by go_num, (HF.out _ _ (by first | exact Below.refl _ _ | exact below_drewN (Below.refl _ _) _) HXc.out).1, HO.out.trans (HF.out _ _ (by first | exact Below.refl _ _ | exact below_drewN (Below.refl _ _) _) HXc.out).2⟩
    · obtain rfl : j = n := by omega
      have hs1 := hd.setLeft (-1)
      have hs2 := hs1.1.setOff false
      have q3 := hd.c3
      have q4 := hs1.1.c4
      have f3 := hd.f 3
      have f4 := hs1.1.f 4
      have HS2 := Lib.hid hs2
      have HS1 := Lib.hid hs1
      have HO := Lib.hid ho
      clear hs1 hs2 hd ho
      go_wp2
      go_returns
      exact ⟨rfl, HS2.out.1, HO.out.trans ((HS1.out.2.mono (fun i h => by simp at h; simp [h])).trans (HS2.out.2.mono (fun i h => by simp at h; simp [h])))⟩
end Go.Proofs.Ytjfjeajbekhmdaa
