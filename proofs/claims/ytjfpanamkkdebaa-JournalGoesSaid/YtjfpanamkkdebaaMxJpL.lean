/- A crash behind the last deed, plain; what others' blocks keep. -/
import Derived.Test.YtjfpanamkkdebaaMxJsE
namespace Go.Proofs.Ytjfpanamkkdebaa
open Go.RowKit
set_option linter.unusedVariables false
set_option linter.unusedSimpArgs false
theorem crash_append {K : Nat} {L : Lg} {x : RL} (h : LInv K L) (hK : K + 1 < 256) (hr : Rel L x) (b : List UInt8) :
    ∀ keep torn cut, ∃ hf ep sl, Clean (K + 1) ((appendP L b).2.2.d.crashed keep torn cut) hf ep sl ∧ Had L.snap (if (x.app b).2.1 = 0 then L.recs ++ [b] else L.recs) L.su ((appendP L b).2.2.d.crashed keep torn cut).hasP := by
  intro keep torn cut
  have hold := h.had (by omega) keep torn cut
  unfold RL.app
  by_cases hbb : b.length = 0 ∨ 262144 < b.length
  · rw [append_bad h.alive hbb, if_pos hbb]
    exact ⟨_, _, _, hold.1.mono (by omega), hold.2⟩
  · obtain ⟨q, C, k1, k2, k3⟩ := h.half
    have hfp : 0 < (framedP b).length := by rw [framedP_length]; omega
    have hgr := grow_more (n := (framedP b).length) (show L.pg < L.d.room ∨ (L.pg = L.d.room ∧ L.bs.length = 0) from k1.fit.imp id (fun h => ⟨h.1, by rw [h.2]; rfl⟩)) k1.bsl hfp
    rw [if_neg hbb, hr.pages, hr.page, hr.fill]
    by_cases hg : ((L.d.room : Int) - L.pg) * 113 - L.bs.length < (framedP b).length
    · rw [if_pos hg]
      rw [decide_eq_true hg] at hgr
      rw [append_full h.alive hbb hgr]
      exact ⟨_, _, _, hold.1.mono (by omega), hold.2⟩
    · rw [if_neg hg]
      rw [decide_eq_false hg] at hgr
      have hs := (append_step h hK b hbb hgr).2.2.2 keep torn cut
      exact ⟨_, _, _, hs.1, hs.2⟩
theorem crash_sync {K : Nat} {L : Lg} (h : LInv K L) (hK : K < 256) :
    ∀ keep torn cut, ∃ hf ep sl, Clean K ((syncP L).2.d.crashed keep torn cut) hf ep sl ∧ Had L.snap L.recs (if (syncP L).1 = 0 then L.recs.length else L.su) ((syncP L).2.d.crashed keep torn cut).hasP := by
  intro keep torn cut
  obtain ⟨⟨e0, e1, e2, e3, e4, _⟩ | ⟨e0, _, e1⟩, _⟩ := sync_step h hK
  · have hs := e1.had hK keep torn cut
    rw [if_pos e0]
    rw [e2, e3, e4] at hs
    exact ⟨_, _, _, hs.1, hs.2⟩
  · rw [if_neg e0]
    exact ⟨_, _, _, (e1 keep torn cut).1, (e1 keep torn cut).2⟩
theorem crash_save {K : Nat} {L : Lg} (h : LInv K L) (hK : K + 1 < 256) (b : List UInt8) (hb : b.length ≤ 262144) :
    ∀ keep torn cut, ∃ hf ep sl, Clean (K + 1) ((saveP L b).2.d.crashed keep torn cut) hf ep sl ∧ (((saveP L b).2.d.crashed keep torn cut).hasP = [b] ∨ ((saveP L b).1 ≠ 0 ∧ Had L.snap L.recs L.su ((saveP L b).2.d.crashed keep torn cut).hasP)) := by
  intro keep torn cut
  cases hg : growP 0 0 (allP b []).length L.d.room with
  | true =>
    obtain ⟨_, _, hs⟩ := save_step h hK b hb hg
    obtain ⟨hf, ep, sl, h1, h2, h3⟩ := hs keep torn cut
    refine ⟨hf, ep, sl, h1, ?_⟩
    by_cases he : (saveP L b).1 = 0
    · exact .inl (h3 he)
    · exact h2.elim (fun h => .inr ⟨he, h⟩) .inl
  | false =>
    rw [save_full h.alive hb hg]
    have hold := h.had (by omega) keep torn cut
    exact ⟨_, _, _, hold.1.mono (by omega), .inr ⟨by show (8 : Nat) ≠ 0; decide, hold.2⟩⟩
/-- What is found behind the crash. -/
def Good (op4 must : Bool) (b was : List UInt8) (recs : List (List UInt8)) (sure : Nat) (l : List (List UInt8)) : Prop :=
  (op4 = true ∧ l = [b]) ∨ (must = false ∧ Had was recs sure l)
theorem JLog.notS {w : World} {l g k m c : Nat} {q : Option Nat} {L : Lg} (hj : JLog w l g k m c q L) {j : Nat} {cs : Array Value} {e : TypeId} {f : Nat × Nat} (hb : w.heap[j]? = some (.cells cs e f)) (h1 : e ≠ 81) (h2 : e ≠ 9) (h3 : e ≠ 65) (hq : e = 29 → q ≠ some j) : j ∉ [l, g, k, m] ++ q.toList := by
  intro hm
  rcases List.mem_append.1 hm with hm | hm
  · exact hj.apart hb h1 h2 h3 hm
  · cases hqq : q with
    | none => rw [hqq] at hm; cases hm
    | some i =>
      rw [hqq] at hm
      have : j = i := by simpa using hm
      subst this
      obtain ⟨cs', hc⟩ := hj.row j hqq
      rw [hc] at hb
      injection hb with hb
      injection hb with _ hb
      exact hq hb.symm hqq
theorem RowFrom.keep {w w' : World} {e : TypeId} {v : Value} {xs : List Value} {S : List Nat} (h : RowFrom w e v xs) (ho : Only w w' S) (hq : ∀ j, v.ownBlock = some j → j ∉ S) : RowFrom w' e v xs := by
  rcases h with h1 | ⟨g, o, c, cs, rfl, hh, k⟩
  · exact .inl h1
  · exact .inr ⟨g, o, c, cs, rfl, (ho.block g (blk_lt hh) (hq g rfl)).trans hh, k⟩
theorem OB.ours {w w' : World} {l g k m c base : Nat} {q : Option Nat} {L : Lg} {v : Value} {bs : List UInt8} (h : OB w base v bs) (hj : JLog w l g k m c q L) (ho : Only w w' ([l, g, k, m] ++ q.toList)) : OB w' base v bs :=
  own_only h ho (fun j hv => by obtain ⟨cs, hc⟩ := own_blk h j hv; exact hj.notS hc (by decide) (by decide) (by decide) (fun e => absurd e (by decide)))
theorem RecsAt.ours {w w' : World} {l g k m c : Nat} {q : Option Nat} {L : Lg} {v : Value} {rs : List RSl} (h : RecsAt w v rs) (hj : JLog w l g k m c q L) (ho : Only w w' ([l, g, k, m] ++ q.toList)) (hq : ∀ j, v.ownBlock = some j → q ≠ some j) : RecsAt w' v rs :=
  ⟨h.1.keep ho (fun j hv => by obtain ⟨cs, hc⟩ := h.1.blk j hv; exact hj.notS hc (by decide) (by decide) (by decide) (fun _ => hq j hv)), fun y hy => OB.ours (h.2 y hy) hj ho⟩
theorem OB.its {w w' : World} {r base : Nat} {q : Option Nat} {x : RL} {v : Value} {bs : List UInt8} (h : OB w base v bs) (hx : RLog w r q x) (ho : Only w w' [r]) : OB w' base v bs := by
  obtain ⟨rc, hrb⟩ := hx.blk
  exact own_only h ho (fun j hv => by obtain ⟨cs, hc⟩ := own_blk h j hv; exact blk_not hrb hc (by decide))
theorem RecsAt.its {w w' : World} {r : Nat} {q : Option Nat} {x : RL} {v : Value} {rs : List RSl} (h : RecsAt w v rs) (hx : RLog w r q x) (ho : Only w w' [r]) : RecsAt w' v rs := by
  obtain ⟨rc, hrb⟩ := hx.blk
  exact ⟨h.1.keep ho (fun j hv => by obtain ⟨cs, hc⟩ := h.1.blk j hv; exact blk_not hrb hc (by decide)), fun y hy => OB.its (h.2 y hy) hx ho⟩
theorem JLog.dev {w w' : World} {l g k m c : Nat} {q : Option Nat} {L : Lg} {d : Dsk} (h : JLog w l g k m c q L) (hd : DkAt w' g k m c d) (ho : Only w w' [g, k, m]) : JLog w' l g k m c q { L with d := d } := by
  obtain ⟨vs, rv, rs, hlg, hsn, hrs, hre⟩ := h
  exact ⟨vs, rv, rs, hlg.disk hd ho, OB.disk hsn hlg.dk ho, hrs.disk hlg.dk ho, hre⟩
theorem PairAt.dev {w w' : World} {p l g k m c r : Nat} {q qr : Option Nat} {L : Lg} {x : RL} {d : Dsk} (h : PairAt w p l g k m c r q qr L x) (hd : DkAt w' g k m c d) (ho : Only w w' [g, k, m]) : PairAt w' p l g k m c r q qr { L with d := d } x :=
  h.ours (ho.mono (fun i hi => by simp at hi ⊢; rcases hi with h | h | h <;> simp [h])) (h.log.dev hd ho) (.inl rfl)
theorem Rel.fused {L : Lg} {x : RL} (h : Rel L x) (hd : L.d.dead = false) (n : Int) : Rel { L with d := L.d.fused n } x := by
  refine ⟨h.snap, h.recs, h.sure, ?_, h.page, h.fill⟩
  rw [h.pages]
  unfold Dsk.fused
  rw [hd]
  rfl
theorem app_ne {x : RL} {b : List UInt8} (h : (x.app b).2.1 ≠ 0) : (x.app b).2.2 = x := by
  unfold RL.app at h ⊢
  split
  · rfl
  · rename_i h1
    rw [if_neg h1] at h
    split
    · rfl
    · rename_i h2
      rw [if_neg h2] at h
      exact absurd rfl h
theorem app_recs {x : RL} {b : List UInt8} (h : (x.app b).2.1 = 0) : (x.app b).2.2.recs = x.recs ++ [b] ∧ (x.app b).2.2.snap = x.snap ∧ (x.app b).2.2.sure = x.sure := by
  unfold RL.app at h ⊢
  split
  · rename_i h1; rw [if_pos h1] at h; cases h
  · rename_i h1
    rw [if_neg h1] at h
    split
    · rename_i h2; rw [if_pos h2] at h; cases h
    · exact ⟨rfl, rfl, rfl⟩
theorem Alike.few {K N : Nat} {L : Lg} {x : RL} (h : Alike K N L x) : x.recs.length ≤ 300000 ∧ x.sure ≤ x.recs.length := by
  obtain ⟨f1, f2, f3, f4⟩ := h.inv.few
  have hr := h.inv.roomPos
  have hl := allP_len L.snap L.recs
  rw [h.rel.recs, h.rel.sure]
  exact ⟨by omega, h.inv.su⟩
end Go.Proofs.Ytjfpanamkkdebaa
