/- A device with anything on it, opened twice, plain. -/
import Derived.Test.YtjfpanamkkdebaaMaM
namespace Go.Proofs.Ytjfpanamkkdebaa
open Go.RowKit
set_option linter.unusedVariables false
set_option linter.unusedSimpArgs false
/-- A device that lives, without a fuse. -/
structure Free (d : Dsk) : Prop where
  ok : d.Ok
  n8 : 8 ≤ d.kept.length
  dead : d.dead = false
  bound : d.bound = false
theorem put_cur {d : Dsk} (h : Free d) (i ep ix : Nat) (bs : List UInt8) (hi : i < d.kept.length) (hl : bs.length ≤ 113) :
    Free (d.put i ep ix bs) ∧ (d.put i ep ix bs).kept.length = d.kept.length ∧ d.putE i ep ix bs = 0 ∧ (∃ st, st < 4294967296 ∧ (d.put i ep ix bs).cur i = foldP ep ix bs st) ∧ ∀ j, j ≠ i → (d.put i ep ix bs).cur j = d.cur j := by
  obtain ⟨hk, hb, ⟨e, _⟩ | ⟨e0, hlo, hd⟩⟩ := put_cases d i ep ix bs h.dead hi hl
  · rw [h.bound] at e; cases e
  · refine ⟨⟨put_ok d i ep ix bs h.ok, by rw [hk]; exact h.n8, hd, by rw [hb]; exact h.bound⟩, by rw [hk], e0, ⟨d.stamp i, d.stamp_lt i, ?_⟩, fun j hj => Dsk.cur_of hk ?_⟩
    · exact Dsk.cur_some (by rw [hlo]; exact if_pos rfl) (foldP_length hl)
    · rw [hlo]; exact if_neg hj
theorem synced_cur {d : Dsk} (h : Free d) : Free d.synced ∧ d.synced.kept.length = d.kept.length ∧ d.actE = 0 ∧ ∀ i, i < d.kept.length → d.synced.cur i = d.cur i := by
  obtain ⟨hb, hl, ⟨e, _⟩ | ⟨e0, hd, hk, hlo⟩⟩ := synced_cases d h.dead
  · rw [h.bound] at e; cases e
  · refine ⟨⟨h.ok.synced, by rw [hl]; exact h.n8, hd, by rw [hb]; exact h.bound⟩, hl, e0, fun i hi => ?_⟩
    rw [Dsk.cur_none (by rw [hlo]), hk i hi]
/-- A half's pages, as they are now. -/
structure HalfC (d : Dsk) (hf ep pg : Nat) (C : List (List UInt8)) (bs : List UInt8) : Prop where
  len : C.length = pg
  fit : pg < d.room ∨ (pg = d.room ∧ bs = [])
  chunk : ∀ c ∈ C, c.length ≤ 113
  bsl : bs.length < 113
  full : ∀ i, i < pg → ∃ st, st < 4294967296 ∧ d.cur (d.place hf i) = foldP ep i (C.getD i []) st
  last : bs ≠ [] → ∃ st, st < 4294967296 ∧ d.cur (d.place hf pg) = foldP ep pg bs st
  old : ∀ i, pg ≤ i → (bs ≠ [] → i ≠ pg) → i < d.room → (lookP (d.cur (d.place hf i))).epoch < ep
theorem place_len {d d2 : Dsk} (h : d2.kept.length = d.kept.length) (hf i : Nat) : d2.place hf i = d.place hf i := by unfold Dsk.place; rw [room_len h]
/-- Pouring without a fuse. -/
theorem pour_cur (hf ep : Nat) (hhf : hf ≤ 1) : ∀ (f : Nat) (d : Dsk) (pg : Nat) (C : List (List UInt8)) (bs b : List UInt8), b.length ≤ f → Free d → HalfC d hf ep pg C bs → pg * 113 + bs.length + b.length ≤ d.room * 113 →
    (pourP hf ep f d pg bs b).e = 0 ∧ Free (pourP hf ep f d pg bs b).d ∧ (pourP hf ep f d pg bs b).d.kept.length = d.kept.length ∧ (∀ j, (∀ i, i < d.room → j ≠ d.place hf i) → (pourP hf ep f d pg bs b).d.cur j = d.cur j) ∧
    ∃ C', HalfC (pourP hf ep f d pg bs b).d hf ep (pourP hf ep f d pg bs b).pg C' (pourP hf ep f d pg bs b).bs ∧ C'.flatten ++ (pourP hf ep f d pg bs b).bs = C.flatten ++ bs ++ b
  | 0, d, pg, C, bs, b, hb, hF, hH, hfit => by
    have : b = [] := List.eq_nil_of_length_eq_zero (by omega)
    subst this
    unfold pourP
    exact ⟨rfl, hF, rfl, fun _ _ => rfl, C, hH, by simp⟩
  | f + 1, d, pg, C, bs, b, hb, hF, hH, hfit => by
    by_cases hb0 : b.length = 0
    · rw [pourP_nil _ _ _ _ _ _ _ hb0]
      have : b = [] := List.eq_nil_of_length_eq_zero hb0
      subst this
      exact ⟨rfl, hF, rfl, fun _ _ => rfl, C, hH, by simp⟩
    · have hpg : pg < d.room := by
        rcases hH.fit with h | ⟨h, h2⟩
        · exact h
        · rw [h2, h, List.length_nil] at hfit; omega
      have hbl := hH.bsl
      obtain ⟨n, hn⟩ : ∃ n, min b.length (113 - bs.length) = n := ⟨_, rfl⟩
      have hn0 : 0 < n := by omega
      obtain ⟨b2, hb2⟩ : ∃ b2, bs ++ b.take n = b2 := ⟨_, rfl⟩
      have hb2l : b2.length = bs.length + n := by rw [← hb2, List.length_append, List.length_take]; omega
      have hdl : (b.drop n).length = b.length - n := List.length_drop
      have htk : b2 ++ b.drop n = bs ++ b := by rw [← hb2, List.append_assoc, List.take_append_drop]
      obtain ⟨p1, p2, p3, ⟨st, p4, p5⟩, p6⟩ := put_cur hF (d.place hf pg) ep pg b2 (d.place_lt hf pg hF.n8 hhf hpg) (by omega)
      have hr := room_len p2
      have hp := place_len p2 hf
      have hpi : ∀ i, i ≠ pg → d.place hf i ≠ d.place hf pg := fun i hi e => hi (d.place_inj hf i pg e)
      unfold pourP
      rw [if_neg hb0, hn]
      dsimp only
      rw [hb2, if_neg (by omega)]
      obtain ⟨d2, hd2⟩ : ∃ d2, d.put (d.place hf pg : Nat) ep pg b2 = d2 := ⟨_, rfl⟩
      rw [hd2] at p1 p2 p5 p6 hr hp ⊢
      by_cases h3 : b2.length = 113
      · rw [if_pos h3]
        have H2 : HalfC d2 hf ep (pg + 1) (C ++ [b2]) [] := by
          refine ⟨by rw [List.length_append, hH.len]; rfl, ?_, ?_, by decide, fun i hi => ?_, fun h => absurd rfl h, fun i hi _ hir => ?_⟩
          · rw [hr]
            rcases Nat.lt_or_ge (pg + 1) d.room with h | h
            · exact .inl h
            · exact .inr ⟨by omega, rfl⟩
          · intro c hc
            rcases List.mem_append.1 hc with hc | hc
            · exact hH.chunk c hc
            · rw [List.mem_singleton.1 hc]; omega
          · rw [hp]
            by_cases hi2 : i = pg
            · subst hi2
              refine ⟨st, p4, ?_⟩
              rw [p5, List.getD_eq_getElem?_getD, List.getElem?_append_right (by rw [hH.len]; exact Nat.le_refl _), hH.len, Nat.sub_self]
              rfl
            · rw [p6 _ (hpi i hi2), getD_left _ _ _ _ (by rw [hH.len]; omega)]
              exact hH.full i (by omega)
          · rw [hr] at hir
            rw [hp, p6 _ (hpi i (by omega))]
            exact hH.old i (by omega) (fun _ => by omega) hir
        obtain ⟨q1, q2, q3, q4, C', q5, q6⟩ := pour_cur hf ep hhf f d2 (pg + 1) (C ++ [b2]) [] (b.drop n) (by omega) p1 H2 (by rw [hr]; simp only [List.length_nil]; omega)
        refine ⟨q1, q2, q3.trans p2, fun j hj => ?_, C', q5, ?_⟩
        · rw [q4 j (fun i hi => by rw [hp]; rw [hr] at hi; exact hj i hi), p6 j (hj pg hpg)]
        · rw [q6]
          simp only [List.flatten_append, List.flatten_cons, List.flatten_nil, List.append_nil, List.append_assoc]
          rw [htk]
      · rw [if_neg h3]
        have hb2n : b2 ≠ [] := by intro e; rw [e] at hb2l; simp at hb2l; omega
        have H2 : HalfC d2 hf ep pg C b2 := by
          refine ⟨hH.len, .inl (by rw [hr]; exact hpg), hH.chunk, by omega, fun i hi => ?_, fun _ => ⟨st, p4, by rw [hp]; exact p5⟩, fun i hi hne hir => ?_⟩
          · rw [hp, p6 _ (hpi i (by omega))]
            exact hH.full i hi
          · have hi2 := hne hb2n
            rw [hr] at hir
            rw [hp, p6 _ (hpi i hi2)]
            exact hH.old i hi (fun _ => hi2) hir
        obtain ⟨q1, q2, q3, q4, C', q5, q6⟩ := pour_cur hf ep hhf f d2 pg C b2 (b.drop n) (by omega) p1 H2 (by rw [hr]; omega)
        refine ⟨q1, q2, q3.trans p2, fun j hj => ?_, C', q5, ?_⟩
        · rw [q4 j (fun i hi => by rw [hp]; rw [hr] at hi; exact hj i hi), p6 j (hj pg hpg)]
        · rw [q6, List.append_assoc, htk, List.append_assoc]
theorem sheet_cur {d : Dsk} (h : Free d) {i : Nat} (hi : i < d.kept.length) : d.sheet (i : Nat) = lookP (d.cur i) := d.sheet_now i h.dead hi
/-- A log laid without a fuse. -/
theorem lay_cur {d : Dsk} (h : Free d) (hf ep sl : Nat) (hhf : hf ≤ 1) (hsl : sl ≤ 1) (hep : 0 < ep) (snap : List UInt8) (recs : List (List UInt8)) (hfit : growP 0 0 (allP snap recs).length d.room = true) :
    (layP hf ep sl d snap recs).e = 11 ∨ ((layP hf ep sl d snap recs).e = 0 ∧ Free (layP hf ep sl d snap recs).d ∧ (layP hf ep sl d snap recs).d.kept.length = d.kept.length ∧ ∃ e2 C bs st, ep < e2 ∧ e2 ≤ 2147483648 ∧ HalfC (layP hf ep sl d snap recs).d (1 - hf) e2 C.length C bs ∧ C.flatten ++ bs = allP snap recs ∧
      st < 4294967296 ∧ (layP hf ep sl d snap recs).d.cur (1 - sl) = foldP e2 0 [UInt8.ofNat (1 - hf)] st ∧ (layP hf ep sl d snap recs).d.cur sl = d.cur sl) := by
  unfold layP
  rw [if_neg (by rw [hfit]; decide)]
  have hnx : d.nextE (1 - hf) ep = 11 ∨ (d.nextE (1 - hf) ep = 0 ∧ d.topE (1 - hf) d.room ep < 2147483648) := by
    unfold Dsk.nextE
    rw [if_neg (by rw [h.dead]; decide)]
    split
    · exact .inl rfl
    · rename_i hh; exact .inr ⟨rfl, by omega⟩
  rcases hnx with hnx | ⟨hnx, htop⟩
  · left
    rw [if_pos (by rw [hnx]; decide), hnx]
  right
  rw [if_neg (by rw [hnx]; decide)]
  have hN := h.n8
  have h1f : 1 - hf ≤ 1 := by omega
  have hge := d.topE_ge (1 - hf) ep d.room
  obtain ⟨e2, he2⟩ : ∃ e2, d.topE (1 - hf) d.room ep + 1 = e2 := ⟨_, rfl⟩
  have H0 : HalfC d (1 - hf) e2 0 [] [] := by
    refine ⟨rfl, .inl ?_, by simp, by decide, fun i hi => by omega, fun hh => absurd rfl hh, fun i _ _ hir => ?_⟩
    · unfold Dsk.room; omega
    · have h1 := hge.2 i hir
      rw [sheet_cur h (d.place_lt (1 - hf) i hN h1f hir)] at h1
      omega
  obtain ⟨all, hall⟩ : ∃ all, allP snap recs = all := ⟨_, rfl⟩
  rw [hall] at hfit ⊢
  have hfit2 : 0 * 113 + ([] : List UInt8).length + all.length ≤ d.room * 113 := by
    unfold growP at hfit
    simp at hfit ⊢
    omega
  obtain ⟨q1, q2, q3, q4, C', q5, q6⟩ := pour_cur (1 - hf) e2 h1f all.length d 0 [] [] all (Nat.le_refl _) h H0 hfit2
  rw [he2]
  dsimp only
  obtain ⟨P, hP⟩ : ∃ P, pourP (1 - hf) e2 all.length d 0 [] all = P := ⟨_, rfl⟩
  rw [hP] at q1 q2 q3 q4 q5 q6 ⊢
  obtain ⟨d1, pp, pbs, pe⟩ := P
  dsimp only at q1 q2 q3 q4 q5 q6 ⊢
  subst q1
  rw [if_neg (by decide)]
  obtain ⟨s1, s2, s3, s4⟩ := synced_cur q2
  rw [if_neg (by omega)]
  obtain ⟨p1, p2, p3, ⟨st, p4, p5⟩, p6⟩ := put_cur s1 (1 - sl) e2 0 [UInt8.ofNat (1 - hf)] (by omega) (by simp)
  rw [if_neg (by omega)]
  obtain ⟨t1, t2, t3, t4⟩ := synced_cur p1
  rw [if_neg (by omega)]
  dsimp only
  have hlen : (d1.synced.put (1 - sl : Nat) e2 0 [UInt8.ofNat (1 - hf)]).synced.kept.length = d.kept.length := by rw [t2, p2, s2, q3]
  have hcl : C'.length = pp := q5.len
  refine ⟨rfl, t1, hlen, e2, C', pbs, st, by omega, by omega, ?_, by simpa using q6, p4, ?_, ?_⟩
  · rw [hcl]
    have hr1 := room_len q3
    have hr2 := room_len hlen
    have hpl1 := place_len q3 (1 - hf)
    have hpl2 := place_len hlen (1 - hf)
    have hc : ∀ i, i < d.room → (d1.synced.put (1 - sl : Nat) e2 0 [UInt8.ofNat (1 - hf)]).synced.cur (d.place (1 - hf) i) = d1.cur (d.place (1 - hf) i) := fun i hi => by
      have hlt := d.place_lt (1 - hf) i hN h1f hi
      rw [t4 _ (by rw [p2, s2, q3]; exact hlt), p6 _ (fun e => place_slot d (1 - hf) i (1 - sl) (by omega) e.symm), s4 _ (by rw [q3]; exact hlt)]
    have hfit := q5.fit
    rw [hr1] at hfit
    refine ⟨hcl, by rw [hr2]; exact hfit, q5.chunk, q5.bsl, fun i hi => ?_, fun hne => ?_, fun i h1 h2 hir => ?_⟩
    · have := q5.full i hi
      rw [hpl1] at this
      rw [hpl2, hc i (by rcases hfit with h | h <;> omega)]
      exact this
    · have := q5.last hne
      rw [hpl1] at this
      rw [hpl2, hc pp (by rcases hfit with h | h; exact h; exact absurd h.2 hne)]
      exact this
    · rw [hr2] at hir
      have := q5.old i h1 h2 (by rw [hr1]; exact hir)
      rw [hpl1] at this
      rw [hpl2, hc i hir]
      exact this
  · rw [t4 _ (by rw [p2, s2, q3]; omega)]
    exact p5
  · rw [t4 _ (by rw [p2, s2, q3]; omega), p6 _ (by omega), s4 _ (by rw [q3]; omega)]
    exact q4 sl (fun i _ => place_slot d (1 - hf) i sl hsl)
/-- The slot that counts has the log's epoch. -/
theorem found_epoch {d : Dsk} (h : Free d) {hf ep sl : Nat} (hfo : d.foundS 2 = ⟨hf, ep, sl⟩) (hep : 0 < ep) : hf ≤ 1 ∧ sl ≤ 1 ∧ (lookP (d.cur sl)).epoch = ep := by
  have hN := h.n8
  have e2 : d.foundS 2 = d.slotP 1 (d.slotP 0 ⟨0, 0, 0⟩) := rfl
  rw [e2] at hfo
  have s0 := sheet_cur h (show 0 < d.kept.length by omega)
  have s1 := sheet_cur h (show 1 < d.kept.length by omega)
  have key : ∀ n (p : Plc), (d.slotP n p = p ∨ ((d.slotP n p).hf ≤ 1 ∧ (d.slotP n p).sl = n ∧ (d.slotP n p).ep = (d.sheet (n : Nat)).epoch)) := by
    intro n p
    unfold Dsk.slotP
    split
    · rename_i hh; exact .inr ⟨by have := hh.2.2.1; dsimp only; omega, rfl, rfl⟩
    · exact .inl rfl
  rcases key 1 (d.slotP 0 ⟨0, 0, 0⟩) with h1 | ⟨h1, h2, h3⟩
  · rw [h1] at hfo
    rcases key 0 ⟨0, 0, 0⟩ with h1 | ⟨h1, h2, h3⟩
    · rw [h1] at hfo; cases hfo; omega
    · rw [hfo] at h1 h2 h3
      dsimp only at h1 h2 h3
      subst h2
      exact ⟨h1, by decide, by rw [← s0, h3]⟩
  · rw [hfo] at h1 h2 h3
    dsimp only at h1 h2 h3
    subst h2
    exact ⟨h1, by decide, by rw [← s1, h3]⟩
theorem openP_lay {d : Dsk} (h : Free d) {s : List UInt8} {rs : List (List UInt8)} (hep : (d.foundS 2).ep ≠ 0) (hh : d.hasP = s :: rs) : openP d = layP (d.foundS 2).hf (d.foundS 2).ep (d.foundS 2).sl d s rs := by
  unfold openP
  have := h.n8
  rw [h.dead, if_neg (by simp), if_neg (by omega), if_neg hep, hh]
theorem openP_fit {d : Dsk} (h : Free d) {s : List UInt8} {rs : List (List UInt8)} (hh : d.hasP = s :: rs) : growP 0 0 (allP s rs).length d.room = true := by
  have hlen := d.hasP_len s rs hh
  have hsl := d.stream_le (d.foundS 2).hf (d.foundS 2).ep d.room 0
  have hN := h.n8
  have hr0 : 0 < d.room := by unfold Dsk.room; omega
  unfold growP
  simp
  refine ⟨hr0, ?_⟩
  have : (allP s rs).length ≤ 113 * d.room := Nat.le_trans hlen.1 hsl
  omega
/-- What an opening found is found again, unless epochs are at their end. -/
theorem open_twice {d : Dsk} (h : Free d) (he : (openP d).e = 0) : ((openP (openP d).d).e = 0 ∨ (openP (openP d).d).e = 11) ∧ (openP d).d.hasP = d.hasP ∧ d.hasP ≠ [] ∧ Free (openP d).d := by
  obtain ⟨⟨hf, ep, sl⟩, hfo⟩ : ∃ p, d.foundS 2 = p := ⟨_, rfl⟩
  have hep : ep ≠ 0 := by
    intro e
    subst e
    unfold openP at he
    have := h.n8
    rw [h.dead, if_neg (by simp), if_neg (by omega), hfo, if_pos rfl] at he
    cases he
  cases hh : d.hasP with
  | nil =>
    unfold openP at he
    have := h.n8
    rw [h.dead, if_neg (by simp), if_neg (by omega), hfo, if_neg hep, hh] at he
    cases he
  | cons s rs =>
    obtain ⟨f1, f2, f3⟩ := found_epoch h hfo (by omega)
    have hop := openP_lay h (by rw [hfo]; exact hep) hh
    rw [hfo] at hop
    dsimp only at hop
    have hlen := d.hasP_len s rs hh
    rw [hop] at he ⊢
    rcases lay_cur h hf ep sl f1 f2 (by omega) s rs (openP_fit h hh) with e | ⟨_, r2, r3, e2, C, bs, st, r4, r5, r6, r7, r8, r9, r10⟩
    · rw [e] at he; cases he
    obtain ⟨d', hd'⟩ : ∃ d', (layP hf ep sl d s rs).d = d' := ⟨_, rfl⟩
    rw [hd'] at r2 r3 r6 r9 r10 ⊢
    have hfo2 : d'.foundS 2 = ⟨1 - hf, e2, 1 - sl⟩ := by
      refine found_of d' (1 - hf) e2 (1 - sl) st r2.dead r2.n8 (by omega) (by omega) (by omega) (by omega) r8 r9 ?_
      rw [show 1 - (1 - sl) = sl by omega, r10, f3]
      exact fun _ => r4
    have hmost := r2.ok.most
    have hall : (allD C bs).length ≤ d'.room ∧ ∀ c ∈ allD C bs, c.length ≤ 113 := by
      constructor
      · rw [allD_len]
        rcases r6.fit with hq | ⟨hq, hb⟩
        · split <;> omega
        · rw [hb]; simp; omega
      · intro c hc
        unfold allD at hc
        split at hc
        · exact r6.chunk c hc
        · rcases List.mem_append.1 hc with hc | hc
          · exact r6.chunk c hc
          · rw [List.mem_singleton.1 hc]; have := r6.bsl; omega
    have hnow : ∀ i, i < (allD C bs).length → ∃ st, st < 4294967296 ∧ d'.cur (d'.place (1 - hf) i) = foldP e2 i ((allD C bs).getD i []) st := by
      intro i hi
      by_cases hC : i < C.length
      · rw [allD_get _ _ _ hC]; exact r6.full i hC
      · rw [allD_len] at hi
        have hb0 : 0 < bs.length := by
          rcases Nat.eq_zero_or_pos bs.length with e | e
          · rw [if_neg (by omega)] at hi; omega
          · exact e
        have hbn : bs ≠ [] := by intro e; rw [e] at hb0; simp at hb0
        rw [if_pos hb0] at hi
        obtain rfl : i = C.length := by omega
        rw [allD_last _ _ hbn]
        exact r6.last hbn
    have hst := stream_of d' (1 - hf) e2 (allD C bs).length (allD C bs) r2.dead r2.n8 (by omega) (by omega) (by omega) hall.2 hall.1 (Nat.le_refl _) hmost ?_ hnow
    · obtain ⟨r, x1, x2, x3⟩ := hst
      rw [show r = (allD C bs).length by omega, List.take_length, allD_flat, r7] at x3
      have hhas : d'.hasP = s :: rs := by
        rw [d'.hasP_eq (1 - hf) e2 (1 - sl) hfo2, x3]
        exact parts_all s rs hlen.2.1 hlen.2.2
      refine ⟨?_, hhas, by simp, r2⟩
      have hop2 := openP_lay r2 (by rw [hfo2]; dsimp only; omega) hhas
      rw [hfo2] at hop2
      dsimp only at hop2
      rw [hop2]
      rcases lay_cur r2 (1 - hf) e2 (1 - sl) (by omega) (by omega) (by omega) s rs (openP_fit r2 hhas) with e | ⟨e, _⟩
      · exact .inr e
      · exact .inl e
    · intro i hi
      by_cases hD : i < (allD C bs).length
      · exact .inl ⟨hD, hnow i hD⟩
      · right
        intro hw
        rw [allD_len] at hD
        have := r6.old i (by split at hD <;> omega) (fun hbn => by
          have hb0 : 0 < bs.length := List.length_pos_iff.2 hbn
          rw [if_pos hb0] at hD
          omega) hi
        omega
end Go.Proofs.Ytjfpanamkkdebaa
