/- One that goes through postings' bytes, and the postings: plain. -/
import Derived.Test.YtbeejmedekgjjaaPpB
namespace Go.Proofs.Ytbeejmedekgjjaa
set_option linter.unusedVariables false
set_option linter.unusedSimpArgs false
/-- One that has these postings ahead. -/
structure Sim (t : It) (l : List Post) : Prop where
  bad : t.bad = false
  left : t.left = l.length
  il : t.inn ≤ l.length
  run : t.run = some (runBytes t.last (l.take t.inn))
  top : t.top = lastD t.last (l.take t.inn)
  runs : t.runs = some (runsB t.top (l.drop t.inn))
  chk : chkFrom t.last l = true
  a0 : -1 ≤ t.last
theorem chkFrom_last : ∀ (c : List Post) (last : Int), chkFrom last c = true → last ≤ lastD last c ∧ (c ≠ [] → last < lastD last c)
  | [], last, _ => ⟨by rw [lastD_nil]; omega, fun h => absurd rfl h⟩
  | p :: c, last, h => by
    unfold chkFrom at h
    simp only [Bool.and_eq_true, decide_eq_true_eq] at h
    have := (chkFrom_last c p.doc h.2).1
    rw [lastD_cons]
    exact ⟨by omega, fun _ => by omega⟩
theorem chkFrom_take {last : Int} {l : List Post} (h : chkFrom last l = true) (n : Nat) : chkFrom last (l.take n) = true ∧ chkFrom (lastD last (l.take n)) (l.drop n) = true := by
  have := chkFrom_append (l.take n) (l.drop n) last
  rw [List.take_append_drop, h] at this
  simpa using this.symm
theorem take_min {l : List Post} : l.take (min l.length 4) = l.take 4 := by
  by_cases h : l.length ≤ 4
  · rw [show min l.length 4 = l.length by omega, List.take_length, List.take_of_length_le h]
  · rw [show min l.length 4 = 4 by omega]
theorem drop_min {l : List Post} : l.drop (min l.length 4) = l.drop 4 := by
  by_cases h : l.length ≤ 4
  · rw [show min l.length 4 = l.length by omega, List.drop_length, List.drop_of_length_le h]
  · rw [show min l.length 4 = 4 by omega]
theorem Sim.turn {t : It} {l : List Post} (h : Sim t l) (hi : t.inn = 0) (hl : l ≠ []) : Sim t.turn l := by
  have htop : t.top = t.last := by have := h.top; rw [hi, List.take_zero, lastD_nil] at this; exact this
  have hruns : t.runs = some (runsB t.top l) := by have := h.runs; rw [hi, List.drop_zero] at this; exact this
  have hc : chkFrom t.top l = true := by rw [htop]; exact h.chk
  have hc4 := chkFrom_take hc 4
  have h0 : -1 ≤ t.top := by rw [htop]; exact h.a0
  have hf := (chkFrom_fits _ _ hc4.1).1
  have hne : l.take 4 ≠ [] := by cases l with | nil => exact absurd rfl hl | cons a b => simp
  have hlt := (chkFrom_last _ _ hc4.1).2 hne
  have hle : lastD t.top (l.take 4) ≤ 65535 := by
    unfold lastD
    cases hg : (l.take 4).getLast? with
    | none => exact absurd (List.getLast?_eq_none_iff.1 hg) hne
    | some p => have := fitsB_doc (hf p (List.mem_of_getLast? hg)); simp only [Option.map_some, Option.getD_some]; omega
  rw [runsB_cons _ hl] at hruns
  have hrl := runBytes_le (l.take 4) t.top hf
  have hl4 : (l.take 4).length ≤ 4 := by rw [List.length_take]; omega
  have hx : ((numNat (lastD t.top (l.take 4) - t.top - 1) : Nat) : Int) = lastD t.top (l.take 4) - t.top - 1 := by unfold numNat; omega
  have hn : numS (65534 - t.top) t.runs = (numNat (lastD t.top (l.take 4) - t.top - 1), some (textBytes (runBytes t.top (l.take 4)) ++ runsB (lastD t.top (l.take 4)) (l.drop 4))) := by
    rw [hruns, chunkBytes, List.append_assoc]
    exact numS_num (by omega) (by omega) _
  have ht := textS_text (tx := runBytes t.top (l.take 4)) (by omega) (runsB (lastD t.top (l.take 4)) (l.drop 4))
  have ht2 : t.top + (1 + ((numNat (lastD t.top (l.take 4) - t.top - 1) : Nat) : Int)) = lastD t.top (l.take 4) := by omega
  have e : t.turn = { runs := some (runsB (lastD t.top (l.take 4)) (l.drop 4)), run := some (runBytes t.top (l.take 4)), left := t.left, inn := min t.left 4, last := t.top, top := lastD t.top (l.take 4), bad := false } := by
    unfold It.turn
    rw [hn]
    simp only
    rw [ht, ht2]
    rfl
  rw [e]
  have hll := h.left
  refine ⟨rfl, hll, by simp only; omega, ?_, ?_, ?_, hc, h0⟩
  · simp only; rw [hll, take_min]
  · simp only; rw [hll, take_min]
  · simp only; rw [hll, drop_min]
theorem Sim.unturn {t : It} {l : List Post} (h : Sim t.turn l) (hi : t.inn = 0) (hl : l ≠ []) (hb : t.bad = false) (hr : t.run = some []) (ht : t.last = t.top) : Sim t l := by
  have hleft : t.left = l.length := h.left
  have hinn : t.turn.inn = min l.length 4 := by rw [← hleft]; rfl
  have hrun := h.run
  have htop := h.top
  have hruns := h.runs
  rw [hinn, take_min] at hrun htop
  rw [hinn, drop_min] at hruns
  cases hn : numS (65534 - t.top) t.runs with
  | mk x o1 =>
    cases hx : textS 65536 o1 with
    | mk tx o2 =>
      have e : t.turn = { runs := o2, run := some tx, left := t.left, inn := min t.left 4, last := t.top, top := t.top + (1 + (x : Int)), bad := !o2.isSome } := by
        unfold It.turn
        rw [hn]
        simp only
        rw [hx]
      rw [e] at hrun htop hruns
      simp only at hrun htop hruns
      subst hruns
      injection hrun with hrun
      obtain ⟨k1, k2⟩ := textS_back hx
      subst k1
      obtain ⟨k3, k4, k5⟩ := numS_back hn
      refine ⟨hb, hleft, by omega, by rw [hi, hr]; rfl, by rw [hi, List.take_zero, lastD_nil, ht], ?_, by rw [ht]; have := h.chk; rw [e] at this; exact this, by rw [ht]; have := h.a0; rw [e] at this; exact this⟩
      have ex : numNat (lastD t.top (l.take 4) - t.top - 1) = x := by unfold numNat; omega
      rw [hi, List.drop_zero, runsB_cons _ hl, chunkBytes, ex, ← hrun, k3, ← htop]
      simp only [List.append_assoc]
theorem Sim.after {t : It} {p : Post} {l : List Post} (h : Sim t (p :: l)) (hi : 0 < t.inn) : t.fails = false ∧ (postS t.last t.run).1 = p ∧ Sim t.after l := by
  obtain ⟨n, hn⟩ : ∃ n, t.inn = n + 1 := ⟨t.inn - 1, by omega⟩
  have hrun := h.run
  have htop := h.top
  have hruns := h.runs
  have hchk := h.chk
  have hil := h.il
  have hl := h.left
  rw [hn, List.take_succ_cons] at hrun htop
  rw [hn, List.drop_succ_cons] at hruns
  rw [runBytes] at hrun
  rw [lastD_cons] at htop
  rw [List.length_cons] at hil hl
  unfold chkFrom at hchk
  simp only [Bool.and_eq_true, decide_eq_true_eq] at hchk
  have hp := postS_post hchk.1.1 h.a0 hchk.1.2 (runBytes p.doc (l.take n))
  rw [← hrun] at hp
  have hle := (chkFrom_last _ _ (chkFrom_take hchk.2 n).1).1
  have hf : t.fails = false := by
    unfold It.fails
    rw [hp]
    simp only [Option.isSome_some, Bool.not_true, Bool.false_or, hchk.1.1, Bool.or_false]
    rw [Bool.or_eq_false_iff]
    refine ⟨?_, decide_eq_false (by omega)⟩
    by_cases h1 : t.inn = 1
    · obtain rfl : n = 0 := by omega
      have : t.top = p.doc := by rw [htop, List.take_zero, lastD_nil]
      simp [runBytes, overS, this]
    · rw [decide_eq_false h1]; rfl
  refine ⟨hf, by rw [hp], ?_⟩
  have hd := fitsB_doc hchk.1.1
  have e : t.after = { t with run := some (runBytes p.doc (l.take n)), left := t.left - 1, inn := t.inn - 1, last := p.doc, bad := false } := by
    unfold It.after
    rw [hp, hf, h.bad]
    rfl
  rw [e]
  refine ⟨rfl, by simp only; omega, by simp only; omega, by simp only; rw [hn]; rfl, by simp only; rw [hn]; exact htop, by simp only; rw [hn]; exact hruns, hchk.2, by simp only; omega⟩
theorem It.alive_of {t : It} (h1 : t.bad = false) (h2 : t.runs.isSome = true) (h3 : 0 < t.left) : t.alive = true := by
  unfold It.alive
  rw [h1, h2, decide_eq_true h3]
  rfl
theorem Sim.nil {t : It} (h : Sim t []) : t.nextP = none ∧ t.nextIt = t ∧ t.isBad = false := by
  have hl : t.left = 0 := h.left
  have ha : t.alive = false := by unfold It.alive; rw [decide_eq_false (by omega), Bool.and_false]
  refine ⟨by unfold It.nextP; rw [ha]; rfl, by unfold It.nextIt; rw [ha]; rfl, ?_⟩
  have hr := h.runs
  rw [List.drop_nil, runsB_nil] at hr
  unfold It.isBad
  rw [h.bad, hr, hl]
  rfl
theorem Sim.ready {t : It} {p : Post} {l : List Post} (h : Sim t (p :: l)) : Sim t.ready (p :: l) ∧ 0 < t.ready.inn := by
  unfold It.ready
  split
  · rename_i hi
    refine ⟨h.turn hi (by simp), ?_⟩
    show 0 < min t.left 4
    have := h.left
    rw [List.length_cons] at this
    omega
  · exact ⟨h, by omega⟩
theorem Sim.alive {t : It} {p : Post} {l : List Post} (h : Sim t (p :: l)) : t.alive = true := It.alive_of h.bad (by rw [h.runs]; rfl) (by rw [h.left]; simp)
theorem Sim.cons {t : It} {p : Post} {l : List Post} (h : Sim t (p :: l)) : t.nextP = some p ∧ Sim t.nextIt l := by
  obtain ⟨h1, h2⟩ := h.ready
  obtain ⟨h3, h4, h5⟩ := h1.after h2
  constructor
  · unfold It.nextP
    rw [if_pos h.alive, h1.bad, h3, h4]
    rfl
  · unfold It.nextIt
    rw [if_pos h.alive, h1.bad]
    exact h5
theorem Sim.all : ∀ (l : List Post) (t : It) (n : Nat), Sim t l → l.length < n → (allI n t).1 = l ∧ (allI n t).2.isBad = false
  | [], t, n, h, hn => by
    obtain ⟨m, rfl⟩ : ∃ m, n = m + 1 := ⟨n - 1, by omega⟩
    obtain ⟨h1, h2, h3⟩ := h.nil
    rw [allI_none h1, h2]
    exact ⟨rfl, h3⟩
  | p :: l, t, n, h, hn => by
    obtain ⟨m, rfl⟩ : ∃ m, n = m + 1 := ⟨n - 1, by omega⟩
    obtain ⟨h1, h2⟩ := h.cons
    rw [List.length_cons] at hn
    obtain ⟨h3, h4⟩ := Sim.all l t.nextIt m h2 (by omega)
    rw [allI_some h1, h3]
    exact ⟨rfl, h4⟩
theorem It.isBad_bad {t : It} (h : t.bad = true) : t.isBad = true := by unfold It.isBad; rw [h]; rfl
theorem overS_eq {o : Option (List UInt8)} (h : overS o = true) : o = some [] := by
  cases o with
  | none => simp [overS] at h
  | some bs => cases bs with
    | nil => rfl
    | cons a b => simp [overS] at h
/-- What was gone through without a fault was such bytes. -/
theorem sim_of : ∀ (n : Nat) (t : It) (l : List Post) (t' : It), t.Ok → t.bad = false → (t.inn = 0 → t.run = some [] ∧ t.last = t.top) → t.left < n → allI n t = (l, t') → t'.isBad = false → Sim t l
  | 0, t, l, t', _, _, _, hn, _, _ => by omega
  | n + 1, t, l, t', ho, hb, hw, hn, ha, hnb => by
    cases hp : t.nextP with
    | none =>
      rw [allI_none hp] at ha
      injection ha with h1 h2
      subst h1; subst h2
      cases hal : t.alive with
      | true =>
        unfold It.nextP at hp
        unfold It.nextIt at hnb
        rw [if_pos hal] at hp hnb
        cases hrb : t.ready.bad with
        | true => rw [hrb, if_pos rfl] at hnb; rw [It.isBad_bad hrb] at hnb; cases hnb
        | false =>
          rw [hrb] at hp hnb
          cases hf : t.ready.fails with
          | true =>
            have : t.ready.after.bad = true := by show (t.ready.bad || t.ready.fails) = true; rw [hf, Bool.or_true]
            have h2 : t.ready.after.isBad = false := hnb
            rw [It.isBad_bad this] at h2
            cases h2
          | false => rw [hf] at hp; simp at hp
      | false =>
        have e : t.nextIt = t := by unfold It.nextIt; rw [hal]; rfl
        rw [e] at hnb
        have hr : t.runs.isSome = true := by
          cases h : t.runs.isSome with
          | true => rfl
          | false => unfold It.isBad at hnb; rw [h] at hnb; simp at hnb
        have hl : t.left = 0 := by
          cases h : t.left with
          | zero => rfl
          | succ k => have := It.alive_of hb hr (by omega); rw [hal] at this; cases this
        have hov : overS t.runs = true := by
          cases h : overS t.runs with
          | true => rfl
          | false => unfold It.isBad at hnb; rw [h, hl] at hnb; simp at hnb
        have hi : t.inn = 0 := by have := ho.il; omega
        obtain ⟨h1, h2⟩ := hw hi
        exact ⟨hb, by rw [hl]; rfl, by omega, by rw [h1, hi]; rfl, by rw [hi]; exact h2.symm, by rw [overS_eq hov]; simp [runsB_nil], rfl, ho.a0⟩
    | some p =>
      rw [allI_some hp] at ha
      have hleft := It.next_left hp
      injection ha with h1 h2
      subst h1
      have hal : t.alive = true := by
        cases h : t.alive with
        | true => rfl
        | false => unfold It.nextP at hp; rw [h] at hp; simp at hp
      obtain ⟨hro, hri⟩ := ho.ready hal
      have hnx := ho.next
      unfold It.nextP at hp
      rw [if_pos hal] at hp
      cases hrb : t.ready.bad with
      | true => rw [hrb] at hp; simp at hp
      | false =>
        rw [hrb] at hp
        cases hf : t.ready.fails with
        | true => rw [hf] at hp; simp at hp
        | false =>
          rw [hf] at hp
          have hp2 : (postS t.ready.last t.ready.run).1 = p := by simpa using hp
          have en : t.nextIt = t.ready.after := by unfold It.nextIt; rw [if_pos hal, hrb]; rfl
          rw [en] at h2 hleft hnx
          obtain ⟨f1, f2, f3⟩ := It.fails_not hf
          cases hps : postS t.ready.last t.ready.run with
          | mk q o =>
            rw [hps] at f1 f2 f3 hp2
            simp only at f1 f2 f3 hp2
            subst hp2
            obtain ⟨r, rfl⟩ := Option.isSome_iff_exists.1 f1
            have hbk := postS_back hps
            have ea : t.ready.after = { t.ready with run := some r, left := t.ready.left - 1, inn := t.ready.inn - 1, last := q.doc, bad := false } := by
              unfold It.after
              rw [hps, hf, hrb]
              rfl
            have hS : Sim t.ready.after (allI n t.nextIt).1 := by
              rw [en]
              refine sim_of n t.ready.after _ t' hnx (by rw [ea]) ?_ (by omega) (by rw [← h2]) hnb
              intro h0
              rw [ea] at h0 ⊢
              simp only at h0 ⊢
              have h1 : t.ready.inn = 1 := by omega
              unfold It.fails at hf
              rw [hps, h1] at hf
              simp only [decide_true, Bool.true_and, Bool.or_eq_false_iff, Bool.not_eq_false', decide_eq_false_iff_not, ne_eq, Decidable.not_not] at hf
              have := overS_eq hf.1.1.2.1
              exact ⟨this, hf.1.1.2.2⟩
            rw [en] at hS ⊢
            generalize (allI n t.ready.after).1 = l at hS ⊢
            have hRd : Sim t.ready (q :: l) := by
              obtain ⟨m, hm⟩ : ∃ m, t.ready.inn = m + 1 := ⟨t.ready.inn - 1, by omega⟩
              have s1 := hS.left
              have s2 := hS.il
              have s3 := hS.run
              have s4 := hS.top
              have s5 := hS.runs
              have s6 := hS.chk
              rw [ea] at s1 s2 s3 s4 s5 s6
              simp only [hm, Nat.add_sub_cancel] at s1 s2 s3 s4 s5 s6
              injection s3 with s3
              refine ⟨hrb, by rw [List.length_cons]; have := hro.il; omega, by rw [List.length_cons]; omega, ?_, ?_, ?_, ?_, hro.a0⟩
              · rw [hm, List.take_succ_cons, runBytes, hbk.1, s3]
              · rw [hm, List.take_succ_cons, lastD_cons, s4]
              · rw [hm, List.drop_succ_cons, s5]
              · unfold chkFrom
                rw [s6, f2, decide_eq_true hbk.2]
                rfl
            unfold It.ready at hRd
            split at hRd
            · rename_i hi
              obtain ⟨w1, w2⟩ := hw hi
              exact hRd.unturn hi (by simp) hb w1 w2
            · exact hRd
/-- Decoding and encoding are each other's back. -/
theorem decP_iff {bs : List UInt8} (hm : bs.length ≤ 140737488355300) {l : List Post} : decP bs = some l ↔ chkB l = true ∧ encB l = bs := by
  have hok := openIt_ok hm
  constructor
  · intro h
    have hall : ∃ t', allI ((openIt bs).left + 1) (openIt bs) = (l, t') ∧ t'.isBad = false := by
      unfold decP at h
      cases hx : allI ((openIt bs).left + 1) (openIt bs) with
      | mk l' t' =>
        rw [hx] at h
        cases hb : t'.isBad with
        | true => simp [hb] at h
        | false => simp [hb] at h; exact ⟨t', by rw [h], hb⟩
    obtain ⟨t', hx, hnb⟩ := hall
    have hS := sim_of _ (openIt bs) l t' hok rfl (fun _ => ⟨rfl, rfl⟩) (Nat.lt_succ_self _) hx hnb
    · refine ⟨hS.chk, ?_⟩
      have h1 : (openIt bs).left = l.length := hS.left
      have h2 : (openIt bs).runs = some (runsB (-1) l) := hS.runs
      cases hn : numS 65536 (some bs) with
      | mk x o =>
        have e1 : (numS 65536 (some bs)).1 = l.length := h1
        have e2 : (numS 65536 (some bs)).2 = some (runsB (-1) l) := h2
        rw [hn] at e1 e2
        simp only at e1 e2
        subst e1; subst e2
        have := (numS_back hn).1
        injection this with this
        rw [encB_runs, this]
  · intro ⟨hc, he⟩
    have hl := chkB_len hc
    have hn : numS 65536 (some bs) = (l.length, some (runsB (-1) l)) := by rw [← he, encB_runs]; exact numS_num (by omega) (by omega) _
    have hS : Sim (openIt bs) l := by
      unfold openIt
      rw [hn]
      exact ⟨rfl, rfl, Nat.zero_le _, rfl, rfl, by simp, hc, by simp⟩
    have hleft : (openIt bs).left = l.length := hS.left
    obtain ⟨h1, h2⟩ := hS.all l _ ((openIt bs).left + 1) (by omega)
    unfold decP
    rw [h2, h1]
    rfl
end Go.Proofs.Ytbeejmedekgjjaa
