/- Pages, plain: what is read of a page that was put together; what tearing leaves.
   A half's pages, plain: what pouring makes of them.
   Records out of bytes, plain: of what was written, and of its first part.
   What a device's pages tell, plain: where the newest log stands, and its bytes.
   What a sync and a pour do to pages of small numbers, plain.
   A log laid anew, plain: where the power may go, and what is there then.
   A log behind a crash, and opened, plain.
   Each deed done to a log, plain: what the log is then, and what a crash leaves.
   Each deed done to a log, plain.
   A log and the document's, plain: they do alike. -/
import Derived.Test.YtjfpanamkkdebaaMaK
namespace Go.Proofs.Ytjfpanamkkdebaa
open Go.RowKit
set_option linter.unusedVariables false
set_option linter.unusedSimpArgs false
theorem take_at {α : Type} {A X : List α} {n : Nat} (h : A.length = n) : (A ++ X).take n = A := by subst h; simp
theorem drop_at {α : Type} {A X : List α} {n : Nat} (h : A.length = n) : (A ++ X).drop n = X := by subst h; simp
theorem acc_tail (x : Nat) : ∀ (k s : Nat), acc s (tailBytes x k) = s * 256 ^ k + x % 256 ^ k
  | 0, s => by simp [tailBytes, acc, Nat.mod_one]
  | k + 1, s => by
    have e : acc s (tailBytes x (k + 1)) = acc (s * 256 + (UInt8.ofNat (x / 256 ^ k)).toNat) (tailBytes x k) := rfl
    have h1 : x % 256 ^ (k + 1) = x % 256 ^ k + 256 ^ k * (x / 256 ^ k % 256) := Nat.mod_pow_succ
    have h2 : (UInt8.ofNat (x / 256 ^ k)).toNat = x / 256 ^ k % 256 := UInt8.toNat_ofNat'
    have h3 : s * 256 * 256 ^ k = s * 256 ^ (k + 1) := by rw [Nat.pow_succ, Nat.mul_assoc, Nat.mul_comm 256]
    rw [e, acc_tail x k, h2, h1, Nat.add_mul, h3, Nat.mul_comm (x / 256 ^ k % 256)]
    omega
theorem acc_tail0 {x k : Nat} (h : x < 256 ^ k) : acc 0 (tailBytes x k) = x := by rw [acc_tail, Nat.zero_mul, Nat.zero_add, Nat.mod_eq_of_lt h]
/-- A page that was put together reads as what was put. -/
theorem look_fold {ep ix st : Nat} {bs : List UInt8} (hl : bs.length ≤ 113) (h0 : 0 < ep) (h1 : ep < 4294967296) (h2 : ix < 65536) (h3 : st < 4294967296) : lookP (foldP ep ix bs st) = ⟨ep, ix, bs, true, st⟩ := by
  have l4 : ∀ x, (tailBytes x 4).length = 4 := fun x => tailBytes_length x 4
  have l2 : ∀ x, (tailBytes x 2).length = 2 := fun x => tailBytes_length x 2
  obtain ⟨T, hT⟩ : ∃ T, foldP ep ix bs st = T := ⟨_, rfl⟩
  have e0 : T = tailBytes st 4 ++ (tailBytes ep 4 ++ (tailBytes ix 2 ++ (UInt8.ofNat bs.length :: (bs ++ (Z (113 - bs.length) ++ tailBytes st 4))))) := hT.symm
  have d4 : T.drop 4 = tailBytes ep 4 ++ (tailBytes ix 2 ++ (UInt8.ofNat bs.length :: (bs ++ (Z (113 - bs.length) ++ tailBytes st 4)))) := by rw [e0, drop_at (l4 _)]
  have d8 : T.drop 8 = tailBytes ix 2 ++ (UInt8.ofNat bs.length :: (bs ++ (Z (113 - bs.length) ++ tailBytes st 4))) := by
    rw [show (8 : Nat) = 4 + 4 from rfl, ← List.drop_drop, d4, drop_at (l4 _)]
  have d10 : T.drop 10 = UInt8.ofNat bs.length :: (bs ++ (Z (113 - bs.length) ++ tailBytes st 4)) := by
    rw [show (10 : Nat) = 8 + 2 from rfl, ← List.drop_drop, d8, drop_at (l2 _)]
  have d11 : T.drop 11 = bs ++ (Z (113 - bs.length) ++ tailBytes st 4) := by
    rw [show (11 : Nat) = 10 + 1 from rfl, ← List.drop_drop, d10]; rfl
  have d124 : T.drop 124 = tailBytes st 4 := by
    rw [show (124 : Nat) = 11 + 113 from rfl, ← List.drop_drop, d11, ← List.append_assoc, drop_at (by rw [List.length_append, Z_length]; omega)]
  have t4 : T.take 4 = tailBytes st 4 := by rw [e0, take_at (l4 _)]
  have g10 : (T.getD 10 0).toNat = bs.length := by
    have : T[10]? = some (UInt8.ofNat bs.length) := by
      have := congrArg (fun l => l[0]?) d10
      simpa [List.getElem?_drop] using this
    rw [List.getD_eq_getElem?_getD, this, Option.getD_some, UInt8.toNat_ofNat']
    omega
  have a1 : acc 0 (tailBytes st 4) = st := acc_tail0 (by have : (256 : Nat) ^ 4 = 4294967296 := by decide
                                                         omega)
  have a2 : acc 0 (tailBytes ep 4) = ep := acc_tail0 (by have : (256 : Nat) ^ 4 = 4294967296 := by decide
                                                         omega)
  have a3 : acc 0 (tailBytes ix 2) = ix := acc_tail0 (by have : (256 : Nat) ^ 2 = 65536 := by decide
                                                         omega)
  unfold lookP
  rw [hT, d4, d8, d11, d124, t4, g10, take_at (l4 _), take_at (l2 _), a1, a2, a3]
  have hw : ((st == st && decide (0 < ep) && decide (bs.length ≤ 113)) : Bool) = true := by simp [h0, hl]
  dsimp only
  rw [hw, if_pos rfl, take_at rfl]
/-- A page of small numbers: its stamps and its epoch stand in one byte each. -/
structure Pgs (K : Nat) (a : List UInt8) : Prop where
  len : a.length = 128
  head : a.take 3 = [0, 0, 0]
  ep : (a.drop 4).take 3 = [0, 0, 0]
  tl : (a.drop 124).take 3 = [0, 0, 0]
  epK : (a.getD 7 0).toNat ≤ K
  tlK : (a.getD 127 0).toNat ≤ K
theorem three (a : List UInt8) (n : Nat) (h : (a.drop n).take 3 = [0, 0, 0]) (hl : n + 3 < a.length) : (a.drop n).take 4 = [0, 0, 0, a.getD (n + 3) 0] := by
  have e : (a.drop n).take 4 = (a.drop n).take 3 ++ [a.getD (n + 3) 0] := by
    rw [List.take_succ_eq_append_getElem (by rw [List.length_drop]; omega), List.getElem_drop, List.getD_eq_getElem?_getD, List.getElem?_eq_getElem hl]
    rfl
  rw [e, h]
  rfl
theorem acc_three (x : UInt8) : acc 0 [0, 0, 0, x] = x.toNat := by simp [acc]
theorem Pgs.epoch {K : Nat} {a : List UInt8} (h : Pgs K a) : (lookP a).epoch = (a.getD 7 0).toNat := by
  unfold lookP
  dsimp only
  rw [three a 4 h.ep (by rw [h.len]; decide), acc_three]
theorem Pgs.tail {K : Nat} {a : List UInt8} (h : Pgs K a) : (lookP a).tail = (a.getD 127 0).toNat := by
  unfold lookP
  dsimp only
  have e : a.drop 124 = (a.drop 124).take 4 := by rw [List.take_of_length_le (by rw [List.length_drop, h.len]; decide)]
  rw [e, three a 124 h.tl (by rw [h.len]; decide), acc_three]
theorem Pgs.whole {K : Nat} {a : List UInt8} (h : Pgs K a) (hw : (lookP a).whole = true) : a.getD 3 0 = a.getD 127 0 := by
  unfold lookP at hw
  dsimp only at hw
  have e : a.drop 124 = (a.drop 124).take 4 := by rw [List.take_of_length_le (by rw [List.length_drop, h.len]; decide)]
  have e2 : a.take 4 = [0, 0, 0, a.getD 3 0] := three a 0 h.head (by rw [h.len]; decide)
  rw [e, three a 124 h.tl (by rw [h.len]; decide), e2, acc_three, acc_three] at hw
  simp only [Bool.and_eq_true, beq_iff_eq] at hw
  exact UInt8.toNat_inj.1 hw.1.1
theorem Pgs.mono {K K' : Nat} {a : List UInt8} (h : Pgs K a) (hk : K ≤ K') : Pgs K' a := ⟨h.len, h.head, h.ep, h.tl, Nat.le_trans h.epK hk, Nat.le_trans h.tlK hk⟩
theorem Pgs.zero (K : Nat) : Pgs K (Z 128) := ⟨by decide +kernel, by decide +kernel, by decide +kernel, by decide +kernel, Nat.zero_le _, Nat.zero_le _⟩
theorem tail_small {x : Nat} (h : x < 256) : tailBytes x 4 = [0, 0, 0, UInt8.ofNat x] := by
  have e1 : x / 256 ^ 3 = 0 := Nat.div_eq_of_lt (Nat.lt_of_lt_of_le h (by decide))
  have e2 : x / 256 ^ 2 = 0 := Nat.div_eq_of_lt (Nat.lt_of_lt_of_le h (by decide))
  have e3 : x / 256 ^ 1 = 0 := Nat.div_eq_of_lt (Nat.lt_of_lt_of_le h (by decide))
  simp [tailBytes, e1, e2, e3]
theorem foldP_pgs {K ep ix st : Nat} {bs : List UInt8} (hl : bs.length ≤ 113) (hK : K < 256) (h1 : ep ≤ K) (h2 : st ≤ K) :
    Pgs K (foldP ep ix bs st) ∧ (foldP ep ix bs st).getD 3 0 = (foldP ep ix bs st).getD 127 0 ∧ ((foldP ep ix bs st).getD 127 0).toNat = st := by
  have e0 : foldP ep ix bs st = [0, 0, 0, UInt8.ofNat st] ++ ([0, 0, 0, UInt8.ofNat ep] ++ (tailBytes ix 2 ++ (UInt8.ofNat bs.length :: (bs ++ (Z (113 - bs.length) ++ [0, 0, 0, UInt8.ofNat st]))))) := by
    unfold foldP
    rw [tail_small (by omega), tail_small (by omega)]
  have hlen := foldP_length (ep := ep) (ix := ix) (st := st) hl
  have d124 : (foldP ep ix bs st).drop 124 = [0, 0, 0, UInt8.ofNat st] := by
    have l2 : (tailBytes ix 2).length = 2 := tailBytes_length ix 2
    have e1 : foldP ep ix bs st = ([0, 0, 0, UInt8.ofNat st] ++ ([0, 0, 0, UInt8.ofNat ep] ++ (tailBytes ix 2 ++ (UInt8.ofNat bs.length :: (bs ++ Z (113 - bs.length)))))) ++ [0, 0, 0, UInt8.ofNat st] := by
      rw [e0]; simp
    rw [e1]
    refine drop_at ?_
    simp [l2, Z_length]
    omega
  have g127 : (foldP ep ix bs st).getD 127 0 = UInt8.ofNat st := by
    have := congrArg (fun l => l[3]?) d124
    simp [List.getElem?_drop] at this
    rw [List.getD_eq_getElem?_getD, this]
    rfl
  have g3 : (foldP ep ix bs st).getD 3 0 = UInt8.ofNat st := by rw [e0]; rfl
  have g7 : (foldP ep ix bs st).getD 7 0 = UInt8.ofNat ep := by rw [e0]; rfl
  refine ⟨⟨hlen, by rw [e0]; rfl, by rw [e0]; rfl, by rw [d124]; rfl, ?_, ?_⟩, by rw [g3, g127], ?_⟩
  · rw [g7, UInt8.toNat_ofNat']; omega
  · rw [g127, UInt8.toNat_ofNat']; omega
  · rw [g127, UInt8.toNat_ofNat']; omega
/-- A page of which the first bytes were turned, up to a cut. -/
theorem torn_pgs {K cut : Nat} {a b : List UInt8} (ha : Pgs K a) (hb : Pgs K b) (h3 : b.getD 3 0 = b.getD 127 0) (hne : a.getD 127 0 ≠ b.getD 127 0) (hc : cut ≤ 128) :
    Pgs K (b.take cut ++ a.drop cut) ∧ ((lookP (b.take cut ++ a.drop cut)).whole = true → b.take cut ++ a.drop cut = a ∨ b.take cut ++ a.drop cut = b) := by
  obtain ⟨t, ht⟩ : ∃ t, b.take cut ++ a.drop cut = t := ⟨_, rfl⟩
  rw [ht]
  have hlen : t.length = 128 := by rw [← ht, List.length_append, List.length_take, List.length_drop, ha.len, hb.len]; omega
  have hget : ∀ i, t[i]? = if i < cut then b[i]? else a[i]? := by
    intro i
    rw [← ht, List.getElem?_append, List.length_take, hb.len, show min cut 128 = cut by omega]
    split
    · rw [List.getElem?_take, if_pos (by assumption)]
    · rw [List.getElem?_drop]; congr 1; omega
  have hgd : ∀ i, t.getD i 0 = if i < cut then b.getD i 0 else a.getD i 0 := by
    intro i
    simp only [List.getD_eq_getElem?_getD, hget i]
    split <;> rfl
  have at3 : ∀ (l : List UInt8) (n : Nat), (l.drop n).take 3 = [0, 0, 0] → ∀ i, n ≤ i → i < n + 3 → l[i]? = some 0 := by
    intro l n h i h1 h2
    have := congrArg (fun q => q[i - n]?) h
    simp only [List.getElem?_take, List.getElem?_drop] at this
    rw [if_pos (by omega), show n + (i - n) = i by omega] at this
    rw [this]
    have : i - n = 0 ∨ i - n = 1 ∨ i - n = 2 := by omega
    rcases this with e | e | e <;> rw [e] <;> rfl
  have of3 : ∀ (n : Nat), n + 3 ≤ 128 → (∀ i, n ≤ i → i < n + 3 → t[i]? = some 0) → (t.drop n).take 3 = [0, 0, 0] := by
    intro n hn h
    apply List.ext_getElem?
    intro i
    rw [List.getElem?_take]
    split
    · rename_i hi
      rw [List.getElem?_drop, h (n + i) (by omega) (by omega)]
      have : i = 0 ∨ i = 1 ∨ i = 2 := by omega
      rcases this with rfl | rfl | rfl <;> rfl
    · rename_i hi
      rw [List.getElem?_eq_none (by simp; omega)]
  have both : ∀ n, n + 3 ≤ 128 → (a.drop n).take 3 = [0, 0, 0] → (b.drop n).take 3 = [0, 0, 0] → (t.drop n).take 3 = [0, 0, 0] := by
    intro n hn h1 h2
    refine of3 n hn (fun i hi1 hi2 => ?_)
    rw [hget]
    split
    · exact at3 b n h2 i hi1 hi2
    · exact at3 a n h1 i hi1 hi2
  have hP : Pgs K t := by
    refine ⟨hlen, both 0 (by decide) ha.head hb.head, both 4 (by decide) ha.ep hb.ep, both 124 (by decide) ha.tl hb.tl, ?_, ?_⟩
    · rw [hgd]; split; exact hb.epK; exact ha.epK
    · rw [hgd]; split; exact hb.tlK; exact ha.tlK
  refine ⟨hP, fun hw => ?_⟩
  by_cases h128 : cut = 128
  · right
    rw [← ht, h128, List.take_of_length_le (by rw [hb.len]; decide), List.drop_eq_nil_of_le (by rw [ha.len]; decide), List.append_nil]
  · have h1 := hP.whole hw
    rw [hgd 3, hgd 127, if_neg (show ¬ 127 < cut by omega)] at h1
    by_cases h4 : cut ≤ 3
    · left
      apply List.ext_getElem?
      intro i
      rw [hget]
      split
      · rename_i hi
        rw [at3 b 0 hb.head i (by omega) (by omega), at3 a 0 ha.head i (by omega) (by omega)]
      · rfl
    · rw [if_pos (by omega), h3] at h1
      exact absurd h1.symm hne
end Go.Proofs.Ytjfpanamkkdebaa
namespace Go.Proofs.Ytjfpanamkkdebaa
open Go.RowKit
set_option linter.unusedVariables false
set_option linter.unusedSimpArgs false
/-- A page as it is kept. -/
def Dsk.kpt (d : Dsk) (i : Nat) : List UInt8 := pad (d.kept.getD i [])
theorem Dsk.sheet_now (d : Dsk) (i : Nat) (hd : d.dead = false) (hi : i < d.kept.length) : d.sheet i = lookP (pad (d.now i)) := by
  unfold Dsk.sheet
  rw [d.readE_in i hi, hd]
  simp
theorem Dsk.stamp_lt (d : Dsk) (i : Int) : d.stamp i < 4294967296 := Nat.mod_lt _ (by decide)
/-- One page written: the power goes, or it is there. -/
theorem put_cases (d : Dsk) (i ep ix : Nat) (bs : List UInt8) (hd : d.dead = false) (hi : i < d.kept.length) (hl : bs.length ≤ 113) :
    (d.put i ep ix bs).kept = d.kept ∧ (d.put i ep ix bs).bound = d.bound ∧
    ((d.bound = true ∧ d.putE i ep ix bs = 9 ∧ (d.put i ep ix bs).loose = d.loose ∧ (d.put i ep ix bs).dead = true) ∨
     (d.putE i ep ix bs = 0 ∧ (d.put i ep ix bs).loose = (fun j => if j = i then some (foldP ep ix bs (d.stamp i)) else d.loose j) ∧ (d.put i ep ix bs).dead = false)) := by
  have hr : d.readE i = 0 := by rw [d.readE_in i hi, hd]; rfl
  have hF := foldP_length (ep := ep) (ix := ix) (st := d.stamp i) hl
  have ha : d.askE i = 0 := by unfold Dsk.askE; exact if_pos (by omega)
  unfold Dsk.put Dsk.putE
  rw [if_pos hr, if_pos hr]
  unfold Dsk.wrote Dsk.writeE Dsk.actE
  simp only [ha, hF, ne_eq, not_true_eq_false, if_false, Nat.lt_irrefl]
  cases hs : d.stops with
  | true =>
    have hb : d.bound = true := by
      unfold Dsk.stops at hs
      rw [hd] at hs
      simp at hs
      exact hs.1
    have hact : d.acted = { d with dead := true } := by unfold Dsk.acted; rw [hs]; rfl
    simp only [if_true]
    rw [hact]
    exact ⟨rfl, rfl, .inl ⟨hb, by trivial, rfl, rfl⟩⟩
  | false =>
    simp only [Bool.false_eq_true, if_false]
    have hk := d.acted_kept
    have hbd : d.acted.bound = d.bound := by unfold Dsk.acted; rw [hs]; simp only [Bool.false_eq_true, if_false]; split <;> simp_all
    have hdd : d.acted.dead = false := by unfold Dsk.acted; rw [hs]; simp only [Bool.false_eq_true, if_false]; split <;> simp_all
    refine ⟨hk, hbd, .inr ⟨by trivial, ?_, hdd⟩⟩
    funext j
    simp only [Int.toNat_natCast, pad_full hF]
structure Half (d : Dsk) (hf ep q pg : Nat) (C : List (List UInt8)) (bs : List UInt8) : Prop where
  qpg : q ≤ pg
  len : C.length = pg
  fit : pg < d.room ∨ (pg = d.room ∧ bs = [])
  chunk : ∀ c ∈ C, c.length ≤ 113
  bsl : bs.length < 113
  sync : ∀ i, i < q → d.loose (d.place hf i) = none ∧ ∃ st, st < 4294967296 ∧ d.kpt (d.place hf i) = foldP ep i (C.getD i []) st
  tail : ∀ i, q ≤ i → i < pg → ∃ st, st < 4294967296 ∧ d.loose (d.place hf i) = some (foldP ep i (C.getD i []) st)
  last : pg < d.room → (bs = [] → d.loose (d.place hf pg) = none) ∧ (bs ≠ [] → ∃ st, st < 4294967296 ∧ d.loose (d.place hf pg) = some (foldP ep pg bs st))
  rest : ∀ i, pg < i → i < d.room → d.loose (d.place hf i) = none
  old : ∀ i, q ≤ i → i < d.room → (lookP (d.kpt (d.place hf i))).epoch < ep
theorem Dsk.room_kept {d d2 : Dsk} (h : d2.kept = d.kept) : d2.room = d.room := by unfold Dsk.room; rw [h]
theorem Dsk.place_kept {d d2 : Dsk} (h : d2.kept = d.kept) (hf i : Nat) : d2.place hf i = d.place hf i := by unfold Dsk.place; rw [Dsk.room_kept h]
theorem Dsk.kpt_kept {d d2 : Dsk} (h : d2.kept = d.kept) (i : Nat) : d2.kpt i = d.kpt i := by unfold Dsk.kpt; rw [h]
theorem Dsk.place_inj (d : Dsk) (hf i j : Nat) (h : d.place hf i = d.place hf j) : i = j := by unfold Dsk.place at h; omega
/-- A half hangs on what is kept, and on its own pages. -/
theorem Half.congr {d d2 : Dsk} {hf ep q pg : Nat} {C : List (List UInt8)} {bs : List UInt8} (h : Half d hf ep q pg C bs) (hk : d2.kept = d.kept) (hl : ∀ i, i < d.room → d2.loose (d.place hf i) = d.loose (d.place hf i)) : Half d2 hf ep q pg C bs := by
  have hr := Dsk.room_kept hk
  have hp := fun i => Dsk.place_kept hk hf i
  have hq := h.qpg
  have hfit : pg ≤ d.room := by rcases h.fit with h | h <;> omega
  refine ⟨h.qpg, h.len, by rw [hr]; exact h.fit, h.chunk, h.bsl, fun i hi => ?_, fun i h1 h2 => ?_, fun h1 => ?_, fun i h1 h2 => ?_, fun i h1 h2 => ?_⟩
  · rw [hp, hl i (by omega), Dsk.kpt_kept hk]; exact h.sync i hi
  · rw [hp, hl i (by omega)]; exact h.tail i h1 h2
  · rw [hr] at h1; rw [hp, hl pg h1]; exact h.last h1
  · rw [hr] at h2; rw [hp, hl i h2]; exact h.rest i h1 h2
  · rw [hr] at h2; rw [hp, Dsk.kpt_kept hk]; exact h.old i h1 h2
structure PourOut (d d2 : Dsk) (hf ep q : Nat) (T b : List UInt8) (e pg2 : Nat) (bs2 : List UInt8) : Prop where
  kept : d2.kept = d.kept
  bound : d2.bound = d.bound
  off : ∀ j, (∀ i, i < d.room → j ≠ d.place hf i) → d2.loose j = d.loose j
  half : ∃ pg' C' bs', Half d2 hf ep q pg' C' bs' ∧ (C'.flatten ++ bs') <+: (T ++ b) ∧ T <+: (C'.flatten ++ bs') ∧ (e = 0 → pg2 = pg' ∧ bs2 = bs' ∧ C'.flatten ++ bs' = T ++ b)
  ok : e = 0 → d2.dead = false
  bad : e ≠ 0 → d2.dead = true ∧ d.bound = true
theorem pour_half (hf ep q : Nat) (hhf : hf ≤ 1) : ∀ (f : Nat) (d : Dsk) (pg : Nat) (C : List (List UInt8)) (bs b : List UInt8), b.length ≤ f → 8 ≤ d.kept.length → d.dead = false → Half d hf ep q pg C bs →
    pg * 113 + bs.length + b.length ≤ d.room * 113 →
    PourOut d (pourP hf ep f d pg bs b).d hf ep q (C.flatten ++ bs) b (pourP hf ep f d pg bs b).e (pourP hf ep f d pg bs b).pg (pourP hf ep f d pg bs b).bs := by
  intro f
  induction f with
  | zero =>
    intro d pg C bs b hb hN hd H hfit
    have hb0 : b = [] := List.eq_nil_of_length_eq_zero (by omega)
    subst hb0
    exact ⟨rfl, rfl, fun _ _ => rfl, ⟨pg, C, bs, H, by simp, List.prefix_refl _, fun _ => ⟨rfl, rfl, by simp⟩⟩, fun _ => hd, fun h => absurd rfl h⟩
  | succ f ih =>
    intro d pg C bs b hb hN hd H hfit
    by_cases hb0 : b.length = 0
    · rw [pourP_nil _ _ _ _ _ _ _ hb0]
      have hb0 : b = [] := List.eq_nil_of_length_eq_zero hb0
      subst hb0
      exact ⟨rfl, rfl, fun _ _ => rfl, ⟨pg, C, bs, H, by simp, List.prefix_refl _, fun _ => ⟨rfl, rfl, by simp⟩⟩, fun _ => hd, fun h => absurd rfl h⟩
    · have hpg : pg < d.room := by
        rcases H.fit with h | ⟨h1, h2⟩
        · exact h
        · subst h2; simp only [List.length_nil] at hfit; rw [h1] at hfit; omega
      have hbsl := H.bsl
      obtain ⟨n, hn⟩ : ∃ n, min b.length (113 - bs.length) = n := ⟨_, rfl⟩
      obtain ⟨b2, hb2⟩ : ∃ b2, bs ++ b.take n = b2 := ⟨_, rfl⟩
      have hb2l : b2.length = bs.length + n := by rw [← hb2, List.length_append, List.length_take]; omega
      have hpl := d.place_lt hf pg hN hhf hpg
      have hput := put_cases d (d.place hf pg) ep pg b2 hd hpl (by omega)
      unfold pourP
      rw [if_neg hb0, hn]
      dsimp only
      rw [hb2]
      obtain ⟨d2, hd2⟩ : ∃ d2, d.put (d.place hf pg : Nat) ep pg b2 = d2 := ⟨_, rfl⟩
      obtain ⟨e2, he2⟩ : ∃ e2, d.putE (d.place hf pg : Nat) ep pg b2 = e2 := ⟨_, rfl⟩
      rw [hd2, he2] at hput
      rw [hd2, he2]
      obtain ⟨hk, hbd, hput⟩ := hput
      rcases hput with ⟨hbt, rfl, hlo, hde⟩ | ⟨rfl, hlo, hde⟩
      · rw [if_pos (by decide)]
        exact ⟨hk, hbd, fun j _ => by rw [hlo], ⟨pg, C, bs, H.congr hk (fun i _ => by rw [hlo]), List.prefix_append _ _, List.prefix_refl _, (fun h => by cases h)⟩, (fun h => by cases h), fun _ => ⟨hde, hbt⟩⟩
      · rw [if_neg (by decide)]
        have hr := Dsk.room_kept hk
        have hp := fun i => Dsk.place_kept hk hf i
        have hst := d.stamp_lt (d.place hf pg : Nat)
        have hlp : d2.loose (d.place hf pg) = some (foldP ep pg b2 (d.stamp (d.place hf pg : Nat))) := by rw [hlo]; simp
        have hln : ∀ j, j ≠ d.place hf pg → d2.loose j = d.loose j := fun j hj => by rw [hlo]; simp [hj]
        have hpi : ∀ i, i ≠ pg → d.place hf i ≠ d.place hf pg := fun i hi e => hi (d.place_inj hf _ _ e)
        have htk : b.take n ++ b.drop n = b := List.take_append_drop n b
        have hoff : ∀ j, (∀ i, i < d.room → j ≠ d.place hf i) → d2.loose j = d.loose j := fun j hj => hln j (hj pg hpg)
        by_cases h113 : b2.length = 113
        · rw [if_pos h113]
          have hq := H.qpg
          have H2 : Half d2 hf ep q (pg + 1) (C ++ [b2]) [] := by
            have hgl : ∀ i, i < pg → (C ++ [b2]).getD i [] = C.getD i [] := fun i hi => by
              rw [List.getD_eq_getElem?_getD, List.getD_eq_getElem?_getD, List.getElem?_append_left (by rw [H.len]; exact hi)]
            have hge : (C ++ [b2]).getD pg [] = b2 := by
              rw [List.getD_eq_getElem?_getD, List.getElem?_append_right (by rw [H.len]; exact Nat.le_refl _), H.len, Nat.sub_self]; rfl
            refine ⟨by omega, by rw [List.length_append, H.len]; rfl, (by rw [hr]; rcases Nat.lt_or_ge (pg + 1) d.room with h | h; exact .inl h; exact .inr ⟨by omega, rfl⟩), ?_, by decide, fun i hi => ?_, fun i h1 h2 => ?_, fun h1 => ?_, fun i h1 h2 => ?_, fun i h1 h2 => ?_⟩
            · intro c hc
              rcases List.mem_append.1 hc with hc | hc
              · exact H.chunk c hc
              · rw [List.mem_singleton.1 hc]; omega
            · rw [hp, hln _ (hpi i (by omega)), Dsk.kpt_kept hk, hgl i (by omega)]; exact H.sync i hi
            · rw [hp]
              by_cases hi : i = pg
              · subst hi; exact ⟨_, hst, by rw [hlp, hge]⟩
              · rw [hln _ (hpi i hi), hgl i (by omega)]; exact H.tail i h1 (by omega)
            · rw [hr] at h1
              exact ⟨fun _ => by rw [hp, hln _ (hpi _ (by omega))]; exact H.rest _ (by omega) h1, fun h => absurd rfl h⟩
            · rw [hr] at h2
              rw [hp, hln _ (hpi _ (by omega))]; exact H.rest i (by omega) h2
            · rw [hr] at h2
              rw [hp, Dsk.kpt_kept hk]; exact H.old i h1 h2
          have IH := ih d2 (pg + 1) (C ++ [b2]) [] (b.drop n) (by rw [List.length_drop]; omega) (by rw [hk]; exact hN) hde H2 (by rw [hr, List.length_drop]; simp only [List.length_nil]; omega)
          have eT : (C ++ [b2]).flatten ++ [] = C.flatten ++ b2 := by simp
          rw [eT] at IH
          have eT2 : C.flatten ++ b2 ++ b.drop n = C.flatten ++ bs ++ b := by rw [← hb2, ← htk]; simp [htk]
          obtain ⟨pg', C', bs', k1, k2, k3, k4⟩ := IH.half
          rw [eT2] at k2 k4
          refine ⟨IH.kept.trans hk, IH.bound.trans hbd, fun j hj => (IH.off j (fun i hi => by rw [hr] at hi; rw [hp]; exact hj i hi)).trans (hoff j hj), ⟨pg', C', bs', k1, k2, ?_, k4⟩, IH.ok, fun h => ⟨(IH.bad h).1, by rw [← hbd]; exact (IH.bad h).2⟩⟩
          refine List.IsPrefix.trans ?_ k3
          rw [← hb2, ← List.append_assoc]
          exact List.prefix_append _ _
        · rw [if_neg h113]
          have hq := H.qpg
          have hb2n : b2 ≠ [] := by intro e; rw [e] at hb2l; simp at hb2l; omega
          have H2 : Half d2 hf ep q pg C b2 := by
            refine ⟨hq, H.len, .inl (by rw [hr]; exact hpg), H.chunk, by omega, fun i hi => ?_, fun i h1 h2 => ?_, fun h1 => ?_, fun i h1 h2 => ?_, fun i h1 h2 => ?_⟩
            · rw [hp, hln _ (hpi i (by omega)), Dsk.kpt_kept hk]; exact H.sync i hi
            · rw [hp, hln _ (hpi i (by omega))]; exact H.tail i h1 h2
            · rw [hp, hlp]; exact ⟨fun h => absurd h hb2n, fun _ => ⟨_, hst, rfl⟩⟩
            · rw [hr] at h2
              rw [hp, hln _ (hpi _ (by omega))]; exact H.rest i h1 h2
            · rw [hr] at h2
              rw [hp, Dsk.kpt_kept hk]; exact H.old i h1 h2
          have IH := ih d2 pg C b2 (b.drop n) (by rw [List.length_drop]; omega) (by rw [hk]; exact hN) hde H2 (by rw [hr, List.length_drop]; omega)
          have eT2 : C.flatten ++ b2 ++ b.drop n = C.flatten ++ bs ++ b := by rw [← hb2, ← htk]; simp [htk]
          obtain ⟨pg', C', bs', k1, k2, k3, k4⟩ := IH.half
          rw [eT2] at k2 k4
          refine ⟨IH.kept.trans hk, IH.bound.trans hbd, fun j hj => (IH.off j (fun i hi => by rw [hr] at hi; rw [hp]; exact hj i hi)).trans (hoff j hj), ⟨pg', C', bs', k1, k2, ?_, k4⟩, IH.ok, fun h => ⟨(IH.bad h).1, by rw [← hbd]; exact (IH.bad h).2⟩⟩
          refine List.IsPrefix.trans ?_ k3
          rw [← hb2, ← List.append_assoc]
          exact List.prefix_append _ _
end Go.Proofs.Ytjfpanamkkdebaa
namespace Go.Proofs.Ytjfpanamkkdebaa
open Go.RowKit
set_option linter.unusedVariables false
set_option linter.unusedSimpArgs false
theorem head_ones : ∀ b : Fin 256, b.val = (256 - 2 ^ (8 - ones b.val)) + (if ones b.val < 8 then hd b.val else 0) := by decide +kernel
theorem acc_up (x : Nat) : ∀ (k y : Nat), y = x / 256 ^ k → acc y (tailBytes x k) = x
  | 0, y, h => by simpa [tailBytes, acc] using h
  | k + 1, y, h => by
    have e : acc y (tailBytes x (k + 1)) = acc (y * 256 + (UInt8.ofNat (x / 256 ^ k)).toNat) (tailBytes x k) := rfl
    rw [e]
    refine acc_up x k _ ?_
    have h1 : (UInt8.ofNat (x / 256 ^ k)).toNat = x / 256 ^ k % 256 := by simp
    have h2 : x / 256 ^ (k + 1) = x / 256 ^ k / 256 := by rw [Nat.pow_succ, Nat.div_div_eq_div_mul]
    rw [h1, h, h2]
    omega
theorem ones_head {x : Nat} (hx : x < 18446744073709551616) : ones (headNum x) = need x := by
  unfold ones
  rw [lead_num hx]
  have := need_le x
  omega
theorem hd_head {x : Nat} (hx : x < 18446744073709551616) : hd (headNum x) = x / 256 ^ need x := by
  have hh := headNum_lt hx
  have h1 := head_ones ⟨headNum x, hh⟩
  simp only at h1
  rw [ones_head hx] at h1
  have h2 : headNum x = (256 - 2 ^ (8 - need x)) + if need x < 8 then x / 256 ^ need x else 0 := rfl
  by_cases h8 : need x < 8
  · rw [if_pos h8] at h1 h2
    omega
  · have e8 : need x = 8 := by have := need_le x; omega
    have : ones (headNum x) = 8 := by rw [ones_head hx, e8]
    unfold hd
    rw [if_neg (by omega), e8]
    exact (Nat.div_eq_of_lt hx).symm
theorem rawP_num {x : Nat} (hx : x < 18446744073709551616) (r : List UInt8) : rawP (numBytes x ++ r) = .ok x r := by
  have hh := headNum_lt hx
  have e : (UInt8.ofNat (headNum x)).toNat = headNum x := by simp; omega
  have hl := tailBytes_length x (need x)
  rw [numBytes, List.cons_append, rawP_cons, e, ones_head hx, hd_head hx]
  have ht : (tailBytes x (need x) ++ r).take (need x) = tailBytes x (need x) := by rw [List.take_append_of_le_length (by omega), List.take_of_length_le (by omega)]
  have hd : (tailBytes x (need x) ++ r).drop (need x) = r := by rw [List.drop_append_of_le_length (by omega), List.drop_of_length_le (by omega)]; rfl
  rw [ht, hd, acc_up x _ _ rfl, if_neg (by rw [List.length_append]; omega), if_pos rfl]
theorem numP_num {most : Int} {x : Nat} (hx : x < 9223372036854775808) (hm : (x : Int) ≤ most) (r : List UInt8) : numP most (numBytes x ++ r) = .ok x r := by
  unfold numP
  rw [rawP_num (by omega)]
  simp only
  rw [if_neg (by omega)]
theorem partsP_succ (f : Nat) (bs : List UInt8) : partsP (f + 1) bs = if bs.length = 0 then [] else match (textS 262148 (some bs)).2 with
      | none => []
      | some r => if (opened (textS 262148 (some bs)).1).2 = 0 then (opened (textS 262148 (some bs)).1).1 :: partsP f r else [] := rfl
theorem textS_framed (x r : List UInt8) (h : x.length ≤ 262144) : textS 262148 (some (framedP x ++ r)) = (sealed x, some r) := by
  have hl := sealed_length x
  unfold textS
  have e : framedP x ++ r = numBytes (sealed x).length ++ (sealed x ++ r) := by unfold framedP; rw [List.append_assoc]
  rw [e, numS_ok (numP_num (by omega) (by omega) _)]
  dsimp only
  rw [if_neg (by rw [List.length_append]; omega), take_at rfl, drop_at rfl]
theorem framedP_ne (x r : List UInt8) : (framedP x ++ r).length ≠ 0 := by
  have := framedP_length x
  rw [List.length_append]
  omega
theorem partsP_cons (f : Nat) (x r : List UInt8) (h : x.length ≤ 262144) : partsP (f + 1) (framedP x ++ r) = x :: partsP f r := by
  rw [partsP_succ, if_neg (framedP_ne x r), textS_framed x r h]
  dsimp only
  rw [opened_sealed]
  dsimp only
  rw [if_pos rfl]
theorem partsP_nil (f : Nat) : partsP f [] = [] := by
  cases f with
  | zero => rfl
  | succ f => rw [partsP_succ, if_pos (by rfl)]
theorem partsP_fuel : ∀ (f : Nat) (bs : List UInt8), bs.length ≤ f → partsP f bs = partsP bs.length bs := by
  intro f
  induction f using Nat.strongRecOn with
  | _ f ih =>
    intro bs hb
    cases f with
    | zero => rw [show bs.length = 0 by omega]
    | succ f =>
      by_cases h0 : bs.length = 0
      · have := List.eq_nil_of_length_eq_zero h0
        subst this
        rw [partsP_nil, partsP_nil]
      · obtain ⟨q, hq⟩ : ∃ q, bs.length = q + 1 := ⟨bs.length - 1, by omega⟩
        rw [hq]
        rw [partsP_succ, partsP_succ, if_neg h0, if_neg h0]
        cases ht : (textS 262148 (some bs)).2 with
        | none => rfl
        | some r =>
          have hr := (textS_some ht).1
          dsimp only
          rw [ih f (by omega) r (by omega)]
          rcases Nat.lt_or_ge q (f + 1) with hlt | hge
          · rw [ih q (by omega) r (by omega)]
          · omega
/-- What is less than one record gives none. -/
theorem partsP_short (f : Nat) (x p : List UInt8) (h : x.length ≤ 262144) (hp : p <+: framedP x) (hl : p.length < (framedP x).length) : partsP f p = [] := by
  cases f with
  | zero => rfl
  | succ f =>
    by_cases h0 : p.length = 0
    · rw [partsP_succ, if_pos h0]
    have hsl := sealed_length x
    have key : (textS 262148 (some p)).2 = none := by
      obtain ⟨s, hs⟩ := hp
      have hn : (sealed x).length < 18446744073709551616 := by omega
      have e : framedP x = numBytes (sealed x).length ++ sealed x := rfl
      rw [e] at hs
      by_cases hc : (numBytes (sealed x).length).length ≤ p.length
      · obtain ⟨p2, rfl⟩ : ∃ p2, p = numBytes (sealed x).length ++ p2 := by
          refine ⟨p.drop (numBytes (sealed x).length).length, ?_⟩
          have h1 : p.take (numBytes (sealed x).length).length = numBytes (sealed x).length := by
            have := congrArg (fun l => l.take (numBytes (sealed x).length).length) hs
            simp only [List.take_append_of_le_length hc] at this
            rw [this, take_at rfl]
          conv => lhs; rw [← List.take_append_drop (numBytes (sealed x).length).length p, h1]
        have hl2 : p2.length < (sealed x).length := by
          rw [e, List.length_append, List.length_append] at hl
          omega
        unfold textS
        rw [numS_ok (numP_num (by omega) (by omega) _)]
        dsimp only
        rw [if_pos hl2]
      · have hno : ∃ c, rawP p = .no c := by
          cases p with
          | nil => exact absurd rfl h0
          | cons b bs =>
            have hb : b = UInt8.ofNat (headNum (sealed x).length) := by
              have : (b :: bs ++ s).head? = (numBytes (sealed x).length ++ sealed x).head? := by rw [hs]
              unfold numBytes at this
              simpa using this
            have hh := headNum_lt hn
            have eb : b.toNat = headNum (sealed x).length := by rw [hb]; simp; omega
            refine ⟨4, ?_⟩
            rw [rawP_cons, eb, ones_head hn, if_pos]
            rw [numBytes_length, List.length_cons] at hc
            omega
        obtain ⟨c, hc2⟩ := hno
        unfold textS
        rw [numS_no (e := c) (by unfold numP; rw [hc2])]
    rw [partsP_succ, if_neg h0, key]
theorem prefix_split {a b p : List UInt8} (h : p <+: a ++ b) : (p <+: a ∧ p.length < a.length) ∨ ∃ q, p = a ++ q ∧ q <+: b := by
  obtain ⟨s, hs⟩ := h
  by_cases hl : p.length < a.length
  · left
    refine ⟨?_, hl⟩
    refine List.prefix_iff_eq_take.2 ?_
    have := congrArg (fun l => l.take p.length) hs
    simpa [List.take_append_of_le_length (Nat.le_of_lt hl)] using this
  · right
    refine ⟨p.drop a.length, ?_, ?_⟩
    · have h1 : p.take a.length = a := by
        have := congrArg (fun l => l.take a.length) hs
        simp only [List.take_append_of_le_length (show a.length ≤ p.length by omega)] at this
        rw [this, take_at rfl]
      conv => lhs; rw [← List.take_append_drop a.length p, h1]
    · refine ⟨s, ?_⟩
      have := congrArg (fun l => l.drop a.length) hs
      simp only [List.drop_append_of_le_length (show a.length ≤ p.length by omega)] at this
      rw [this, drop_at rfl]
/-- Of a first part of records' bytes the first records are read. -/
theorem partsP_prefix : ∀ (l : List (List UInt8)) (p : List UInt8), (∀ x ∈ l, x.length ≤ 262144) → p <+: l.flatMap framedP →
    ∃ k, k ≤ l.length ∧ partsP p.length p = l.take k ∧ (k < l.length → p.length < ((l.take (k + 1)).flatMap framedP).length)
  | [], p, _, hp => by
    have : p = [] := by simpa using hp
    subst this
    exact ⟨0, Nat.le_refl _, rfl, fun h => by simp at h⟩
  | x :: l, p, hx, hp => by
    rw [List.flatMap_cons] at hp
    rcases prefix_split hp with ⟨h1, h2⟩ | ⟨q, rfl, hq⟩
    · exact ⟨0, Nat.zero_le _, by rw [partsP_short _ x p (hx x List.mem_cons_self) h1 h2]; rfl, fun _ => by simpa using h2⟩
    · obtain ⟨k, hk1, hk2, hk3⟩ := partsP_prefix l q (fun y hy => hx y (List.mem_cons_of_mem _ hy)) hq
      have hfl := framedP_length x
      refine ⟨k + 1, by simpa using hk1, ?_, fun h => ?_⟩
      · obtain ⟨n, hn⟩ : ∃ n, (framedP x ++ q).length = n + 1 := ⟨(framedP x ++ q).length - 1, by have := framedP_ne x q; omega⟩
        rw [hn, partsP_cons n x q (hx x List.mem_cons_self), partsP_fuel n q (by rw [List.length_append] at hn; omega), hk2, List.take_succ_cons]
      · have := hk3 (by simpa using h)
        rw [List.take_succ_cons, List.flatMap_cons, List.length_append, List.length_append]
        omega
theorem flat_take_le (l : List (List UInt8)) (i j : Nat) (h : i ≤ j) : ((l.take i).flatMap framedP).length ≤ ((l.take j).flatMap framedP).length := by
  have e : l.take j = l.take i ++ (l.drop i).take (j - i) := by
    have := List.take_append (l₁ := l.take i) (l₂ := l.drop i) (i := j)
    rw [List.take_append_drop] at this
    rw [this, List.take_take, List.length_take]
    by_cases hi : i ≤ l.length
    · rw [show min j i = i by omega, show min i l.length = i by omega]
    · rw [show min j i = i by omega, show min i l.length = l.length by omega, List.drop_eq_nil_of_le (by omega)]
      simp
  rw [e, List.flatMap_append, List.length_append]
  omega
/-- Between what is sure and all: the snapshot, and so many of the records. -/
theorem parts_between (snap : List UInt8) (recs : List (List UInt8)) (su : Nat) (p : List UInt8) (hs : snap.length ≤ 262144) (hr : ∀ x ∈ recs, x.length ≤ 262144) (hsu : su ≤ recs.length)
    (h1 : allP snap (recs.take su) <+: p) (h2 : p <+: allP snap recs) : ∃ k, su ≤ k ∧ k ≤ recs.length ∧ partsP p.length p = snap :: recs.take k := by
  have e : ∀ l, allP snap l = (snap :: l).flatMap framedP := fun l => rfl
  rw [e] at h1 h2
  obtain ⟨k, hk1, hk2, hk3⟩ := partsP_prefix (snap :: recs) p (by intro x hx; rcases List.mem_cons.1 hx with rfl | hx; exact hs; exact hr x hx) h2
  have hle := h1.length_le
  have hk : su + 1 ≤ k := by
    rcases Nat.lt_or_ge k (su + 1) with hlt | hge
    · have h3 := hk3 (by simp only [List.length_cons]; omega)
      have h4 := flat_take_le (snap :: recs) (k + 1) (su + 1) (by omega)
      rw [show (snap :: recs).take (su + 1) = snap :: recs.take su from rfl] at h4
      omega
    · exact hge
  obtain ⟨j, rfl⟩ : ∃ j, k = j + 1 := ⟨k - 1, by omega⟩
  exact ⟨j, by omega, by simpa using hk1, by rw [hk2, List.take_succ_cons]⟩
theorem parts_all (snap : List UInt8) (recs : List (List UInt8)) (hs : snap.length ≤ 262144) (hr : ∀ x ∈ recs, x.length ≤ 262144) : partsP (allP snap recs).length (allP snap recs) = snap :: recs := by
  obtain ⟨k, h1, h2, h3⟩ := parts_between snap recs recs.length (allP snap recs) hs hr (Nat.le_refl _) (by rw [List.take_length]; exact List.prefix_refl _) (List.prefix_refl _)
  rw [h3, show k = recs.length by omega, List.take_length]
end Go.Proofs.Ytjfpanamkkdebaa
namespace Go.Proofs.Ytjfpanamkkdebaa
open Go.RowKit
set_option linter.unusedVariables false
set_option linter.unusedSimpArgs false
/-- A page as it is now. -/
def Dsk.cur (d : Dsk) (i : Nat) : List UInt8 := pad (d.now i)
theorem Dsk.cur_none {d : Dsk} {i : Nat} (h : d.loose i = none) : d.cur i = d.kpt i := by unfold Dsk.cur Dsk.now Dsk.kpt; rw [h]
theorem Dsk.cur_some {d : Dsk} {i : Nat} {s : List UInt8} (h : d.loose i = some s) (hl : s.length = 128) : d.cur i = s := by unfold Dsk.cur Dsk.now; rw [h]; exact pad_full hl
theorem lookP_used (a : List UInt8) : (lookP a).bytes.length ≤ 113 := by
  unfold lookP
  dsimp only
  split
  · rename_i hw
    simp only [Bool.and_eq_true, decide_eq_true_eq] at hw
    rw [List.length_take]
    omega
  · simp
theorem Dsk.sheet_used (d : Dsk) (i : Int) : (d.sheet i).bytes.length ≤ 113 := by
  unfold Dsk.sheet
  split
  · exact lookP_used _
  · simp
theorem Dsk.stream_le (d : Dsk) (hf ep : Nat) : ∀ n i, (d.streamFrom hf ep n i).length ≤ 113 * n
  | 0, i => by unfold Dsk.streamFrom; simp
  | n + 1, i => by
    have h1 := d.stream_le hf ep n (i + 1)
    have h2 := d.sheet_used (d.place hf i : Nat)
    unfold Dsk.streamFrom
    split
    · rw [List.length_append]; omega
    · simp
theorem Dsk.goodAt_iff (d : Dsk) (hf ep i : Nat) (hd : d.dead = false) (hn : 8 ≤ d.kept.length) (hhf : hf ≤ 1) (hi : i < d.room) :
    d.goodAt hf ep i ↔ (lookP (d.cur (d.place hf i))).whole = true ∧ (lookP (d.cur (d.place hf i))).epoch = ep ∧ (lookP (d.cur (d.place hf i))).index = i := by
  unfold Dsk.goodAt Dsk.cur
  rw [d.sheet_now _ hd (d.place_lt hf i hn hhf hi)]
/-- Pages that go on with each other, as far as they do. -/
theorem stream_prefix (d : Dsk) (hf ep q : Nat) (D : List (List UInt8)) (hd : d.dead = false) (hn : 8 ≤ d.kept.length) (hhf : hf ≤ 1) (h0 : 0 < ep) (h1 : ep < 4294967296) (hD : ∀ c ∈ D, c.length ≤ 113) (hDl : D.length ≤ d.room) (hq : q ≤ D.length)
    (hm : d.room ≤ 2047)
    (hp : ∀ i, i < d.room → (i < D.length ∧ ∃ st, st < 4294967296 ∧ d.cur (d.place hf i) = foldP ep i (D.getD i []) st) ∨ ¬ ((lookP (d.cur (d.place hf i))).whole = true ∧ (lookP (d.cur (d.place hf i))).epoch = ep))
    (hQ : ∀ i, i < q → ∃ st, st < 4294967296 ∧ d.cur (d.place hf i) = foldP ep i (D.getD i []) st) :
    ∀ n i, i + n = d.room → i ≤ D.length → ∃ r, i ≤ r ∧ r ≤ D.length ∧ q ≤ r ∧ (D.take i).flatten ++ d.streamFrom hf ep n i = (D.take r).flatten := by
  have lf : ∀ i st, i < D.length → st < 4294967296 → lookP (foldP ep i (D.getD i []) st) = ⟨ep, i, D.getD i [], true, st⟩ := by
    intro i st hi hst
    have hc : (D.getD i []).length ≤ 113 := by
      rw [List.getD_eq_getElem?_getD, List.getElem?_eq_getElem hi]
      exact hD _ (List.getElem_mem hi)
    exact look_fold hc h0 h1 (by omega) hst
  intro n
  induction n with
  | zero =>
    intro i hi hiD
    exact ⟨i, Nat.le_refl _, hiD, by omega, by unfold Dsk.streamFrom; rw [List.append_nil]⟩
  | succ n ih =>
    intro i hi hiD
    have hir : i < d.room := by omega
    rcases hp i hir with ⟨hl, st, hst, he⟩ | hno
    · have hg : d.goodAt hf ep i := by rw [d.goodAt_iff hf ep i hd hn hhf hir, he, lf i st hl hst]; exact ⟨rfl, rfl, rfl⟩
      obtain ⟨r, hr1, hr2, hr3, hr4⟩ := ih (i + 1) (by omega) (by omega)
      refine ⟨r, by omega, hr2, hr3, ?_⟩
      have hb : (d.sheet (d.place hf i : Nat)).bytes = D.getD i [] := by
        rw [d.sheet_now _ hd (d.place_lt hf i hn hhf hir)]
        show (lookP (d.cur (d.place hf i))).bytes = _
        rw [he, lf i st hl hst]
      rw [← hr4, List.take_succ_eq_append_getElem hl, List.flatten_append]
      conv => lhs; unfold Dsk.streamFrom
      rw [if_pos hg, hb, List.getD_eq_getElem?_getD, List.getElem?_eq_getElem hl]
      simp
    · have hg : ¬ d.goodAt hf ep i := by rw [d.goodAt_iff hf ep i hd hn hhf hir]; exact fun h => hno ⟨h.1, h.2.1⟩
      refine ⟨i, Nat.le_refl _, hiD, ?_, ?_⟩
      · rcases Nat.lt_or_ge i q with hlt | hge
        · obtain ⟨st, hst, he⟩ := hQ i hlt
          exact absurd (by rw [he, lf i st (by omega) hst]; exact ⟨rfl, rfl⟩) hno
        · exact hge
      · conv => lhs; unfold Dsk.streamFrom
        rw [if_neg hg, List.append_nil]
theorem stream_of (d : Dsk) (hf ep q : Nat) (D : List (List UInt8)) (hd : d.dead = false) (hn : 8 ≤ d.kept.length) (hhf : hf ≤ 1) (h0 : 0 < ep) (h1 : ep < 4294967296) (hD : ∀ c ∈ D, c.length ≤ 113) (hDl : D.length ≤ d.room) (hq : q ≤ D.length) (hm : d.kept.length ≤ 4096)
    (hp : ∀ i, i < d.room → (i < D.length ∧ ∃ st, st < 4294967296 ∧ d.cur (d.place hf i) = foldP ep i (D.getD i []) st) ∨ ¬ ((lookP (d.cur (d.place hf i))).whole = true ∧ (lookP (d.cur (d.place hf i))).epoch = ep))
    (hQ : ∀ i, i < q → ∃ st, st < 4294967296 ∧ d.cur (d.place hf i) = foldP ep i (D.getD i []) st) :
    ∃ r, q ≤ r ∧ r ≤ D.length ∧ d.streamFrom hf ep d.room 0 = (D.take r).flatten := by
  obtain ⟨r, _, h2, h3, h4⟩ := stream_prefix d hf ep q D hd hn hhf h0 h1 hD hDl hq (d.room_le hm) hp hQ d.room 0 (by omega) (Nat.zero_le _)
  exact ⟨r, h3, h2, by simpa using h4⟩
/-- The slot that tells the newest log. -/
theorem found_of (d : Dsk) (hf ep sl st : Nat) (hd : d.dead = false) (hn : 8 ≤ d.kept.length) (hhf : hf ≤ 1) (hsl : sl ≤ 1) (h0 : 0 < ep) (h1 : ep < 4294967296) (hst : st < 4294967296)
    (hs : d.cur sl = foldP ep 0 [UInt8.ofNat hf] st) (ho : (lookP (d.cur (1 - sl))).whole = true → (lookP (d.cur (1 - sl))).epoch < ep) : d.foundS 2 = ⟨hf, ep, sl⟩ := by
  have hlk : lookP (d.cur sl) = ⟨ep, 0, [UInt8.ofNat hf], true, st⟩ := by rw [hs]; exact look_fold (by simp) h0 h1 (by decide) hst
  have hb : ([UInt8.ofNat hf].getD 0 0).toNat = hf := by simp; omega
  have sh : ∀ i : Nat, i < 2 → d.sheet (i : Nat) = lookP (d.cur i) := fun i hi => d.sheet_now i hd (by omega)
  have e2 : d.foundS 2 = d.slotP 1 (d.slotP 0 ⟨0, 0, 0⟩) := rfl
  rw [e2]
  have : sl = 0 ∨ sl = 1 := by omega
  rcases this with rfl | rfl
  · have s0 : d.slotP 0 ⟨0, 0, 0⟩ = ⟨hf, ep, 0⟩ := by
      unfold Dsk.slotP
      rw [sh 0 (by decide), hlk]
      dsimp only
      rw [if_pos ⟨rfl, rfl, by rw [hb]; omega, h0⟩, hb]
    rw [s0]
    unfold Dsk.slotP
    rw [sh 1 (by decide), if_neg]
    intro h
    have := ho h.1
    have h2 : ep < (lookP (d.cur 1)).epoch := h.2.2.2
    simp only [Nat.sub_zero] at this
    omega
  · have s0 : (d.slotP 0 ⟨0, 0, 0⟩).ep < ep := by
      unfold Dsk.slotP
      split
      · rename_i h
        rw [sh 0 (by decide)] at h ⊢
        have := ho h.1
        simpa using this
      · exact h0
    generalize d.slotP 0 ⟨0, 0, 0⟩ = p at s0
    unfold Dsk.slotP
    rw [sh 1 (by decide), hlk]
    dsimp only
    rw [if_pos ⟨rfl, rfl, by rw [hb]; omega, s0⟩, hb]
/-- Pages of small numbers, and what was written since told from them. -/
structure PgOk (K : Nat) (d : Dsk) : Prop where
  kept : ∀ i, Pgs K (d.kpt i)
  loose : ∀ i s, d.loose i = some s → Pgs K s ∧ s.getD 3 0 = s.getD 127 0 ∧ (d.kpt i).getD 127 0 ≠ s.getD 127 0 ∧ ((d.kpt i).getD 127 0).toNat < (s.getD 127 0).toNat
/-- What a page is behind a crash. -/
theorem crash_cur (d : Dsk) (keep : List Int) (torn cut : Int) (i : Nat) (hi : i < d.kept.length) :
    (d.crashed keep torn cut).cur i = d.kpt i ∧ d.loose i = none ∨
    (∃ s, d.loose i = some s ∧ ((d.crashed keep torn cut).cur i = d.kpt i ∨ (d.crashed keep torn cut).cur i = pad s ∨ ∃ c, c ≤ 128 ∧ (d.crashed keep torn cut).cur i = pad (s.take c ++ (d.kpt i).drop c))) := by
  have hc : (d.crashed keep torn cut).cur i = pad (d.after keep torn (cutOf cut) i) := by
    unfold Dsk.cur Dsk.now Dsk.crashed
    dsimp only
    rw [List.getD_eq_getElem?_getD, List.getElem?_map, List.getElem?_range hi]
    rfl
  rw [hc]
  unfold Dsk.after
  cases hl : d.loose i with
  | none => left; exact ⟨rfl, rfl⟩
  | some s =>
    right
    refine ⟨s, rfl, ?_⟩
    dsimp only
    split
    · exact .inr (.inr ⟨_, cutOf_le cut, rfl⟩)
    · split
      · exact .inr (.inl rfl)
      · exact .inl rfl
theorem crash_kpt (d : Dsk) (keep : List Int) (torn cut : Int) (i : Nat) : (d.crashed keep torn cut).kpt i = (d.crashed keep torn cut).cur i := rfl
theorem crash_len (d : Dsk) (keep : List Int) (torn cut : Int) : (d.crashed keep torn cut).kept.length = d.kept.length := by simp [Dsk.crashed]
theorem crash_room (d : Dsk) (keep : List Int) (torn cut : Int) : (d.crashed keep torn cut).room = d.room := by unfold Dsk.room; rw [crash_len]
theorem crash_place (d : Dsk) (keep : List Int) (torn cut : Int) (hf i : Nat) : (d.crashed keep torn cut).place hf i = d.place hf i := by unfold Dsk.place; rw [crash_room]
/-- .. of pages of small numbers: what was kept, or what was written since, or nothing whole. -/
theorem crash_page {K : Nat} (d : Dsk) (hp : PgOk K d) (keep : List Int) (torn cut : Int) (i : Nat) (hi : i < d.kept.length) :
    Pgs K ((d.crashed keep torn cut).cur i) ∧
    ((d.crashed keep torn cut).cur i = d.kpt i ∨ ∃ s, d.loose i = some s ∧ ((d.crashed keep torn cut).cur i = s ∨ (lookP ((d.crashed keep torn cut).cur i)).whole = false)) := by
  rcases crash_cur d keep torn cut i hi with ⟨h, _⟩ | ⟨s, hs, h | h | ⟨c, hc, h⟩⟩
  · rw [h]; exact ⟨hp.kept i, .inl rfl⟩
  · rw [h]; exact ⟨hp.kept i, .inl rfl⟩
  · obtain ⟨h1, h2, h3, _⟩ := hp.loose i s hs
    rw [h, pad_full h1.len]
    exact ⟨h1, .inr ⟨s, hs, .inl rfl⟩⟩
  · obtain ⟨h1, h2, h3, _⟩ := hp.loose i s hs
    have ht := torn_pgs (hp.kept i) h1 h2 h3 hc
    rw [h, pad_full ht.1.len]
    refine ⟨ht.1, ?_⟩
    cases hw : (lookP (s.take c ++ (d.kpt i).drop c)).whole with
    | false => exact .inr ⟨s, hs, .inr rfl⟩
    | true =>
      rcases ht.2 hw with e | e
      · exact .inl e
      · exact .inr ⟨s, hs, .inl e⟩
end Go.Proofs.Ytjfpanamkkdebaa
namespace Go.Proofs.Ytjfpanamkkdebaa
open Go.RowKit
set_option linter.unusedVariables false
set_option linter.unusedSimpArgs false
theorem PgOk.mono {K K' : Nat} {d : Dsk} (h : PgOk K d) (hk : K ≤ K') : PgOk K' d := ⟨fun i => (h.kept i).mono hk, fun i s hs => ⟨(h.loose i s hs).1.mono hk, (h.loose i s hs).2⟩⟩
theorem PgOk.congr {K : Nat} {d d2 : Dsk} (h : PgOk K d) (hk : d2.kept = d.kept) (hl : d2.loose = d.loose) : PgOk K d2 :=
  ⟨fun i => by rw [Dsk.kpt_kept hk]; exact h.kept i, fun i s hs => by rw [hl] at hs; rw [Dsk.kpt_kept hk]; exact h.loose i s hs⟩
theorem PgOk.cur {K : Nat} {d : Dsk} (h : PgOk K d) (i : Nat) : Pgs K (d.cur i) ∧ ((d.kpt i).getD 127 0).toNat ≤ ((d.cur i).getD 127 0).toNat := by
  cases hl : d.loose i with
  | none => rw [Dsk.cur_none hl]; exact ⟨h.kept i, Nat.le_refl _⟩
  | some s =>
    obtain ⟨h1, h2, h3, h4⟩ := h.loose i s hl
    rw [Dsk.cur_some hl h1.len]
    exact ⟨h1, Nat.le_of_lt h4⟩
theorem put_ok (d : Dsk) (i : Int) (ep ix : Nat) (bs : List UInt8) (h : d.Ok) : (d.put i ep ix bs).Ok := by
  unfold Dsk.put
  split
  · exact h.wrote _ _
  · exact h
theorem put_pg {K : Nat} {d : Dsk} (h : PgOk K d) (hK : K < 256) (i ep ix : Nat) (bs : List UInt8) (hd : d.dead = false) (hi : i < d.kept.length) (hl : bs.length ≤ 113) (he : ep ≤ K) (ht : ((d.cur i).getD 127 0).toNat < K) : PgOk K (d.put i ep ix bs) := by
  obtain ⟨hk, _, ⟨_, _, hlo, _⟩ | ⟨_, hlo, _⟩⟩ := put_cases d i ep ix bs hd hi hl
  · exact h.congr hk hlo
  · have hcur := h.cur i
    have hst : d.stamp i = ((d.cur i).getD 127 0).toNat + 1 := by
      unfold Dsk.stamp
      rw [d.sheet_now i hd hi]
      show ((lookP (d.cur i)).tail + 1) % 4294967296 = _
      rw [hcur.1.tail]
      omega
    have hf := foldP_pgs (ix := ix) hl hK he (show d.stamp i ≤ K by omega)
    refine ⟨fun j => by rw [Dsk.kpt_kept hk]; exact h.kept j, fun j s hs => ?_⟩
    rw [hlo] at hs
    rw [Dsk.kpt_kept hk]
    by_cases hj : j = i
    · subst hj
      simp only [if_true] at hs
      injection hs with hs
      subst hs
      have hlt : ((d.kpt j).getD 127 0).toNat < ((foldP ep ix bs (d.stamp j)).getD 127 0).toNat := by rw [hf.2.2]; omega
      exact ⟨hf.1, hf.2.1, fun e => by rw [e] at hlt; omega, hlt⟩
    · simp only [hj, if_false] at hs
      exact h.loose j s hs
theorem pour_pg {K : Nat} (hK : K < 256) (hf ep : Nat) (hhf : hf ≤ 1) (he : ep ≤ K) : ∀ (f : Nat) (d : Dsk) (pg : Nat) (bs b : List UInt8), b.length ≤ f → 8 ≤ d.kept.length → d.dead = false → d.Ok → PgOk K d → bs.length < 113 →
    pg * 113 + bs.length + b.length ≤ d.room * 113 → (∀ i, pg ≤ i → i < d.room → ((d.cur (d.place hf i)).getD 127 0).toNat < K) → (pourP hf ep f d pg bs b).d.Ok ∧ PgOk K (pourP hf ep f d pg bs b).d
  | 0, d, pg, bs, b, _, _, _, h1, h2, _, _, _ => ⟨h1, h2⟩
  | f + 1, d, pg, bs, b, hb, hN, hd, h1, h2, hbl, hfit, ht => by
    by_cases hb0 : b.length = 0
    · rw [pourP_nil _ _ _ _ _ _ _ hb0]; exact ⟨h1, h2⟩
    · have hpg : pg < d.room := by omega
      obtain ⟨n, hn⟩ : ∃ n, min b.length (113 - bs.length) = n := ⟨_, rfl⟩
      obtain ⟨b2, hb2⟩ : ∃ b2, bs ++ b.take n = b2 := ⟨_, rfl⟩
      have hb2l : b2.length = bs.length + n := by rw [← hb2, List.length_append, List.length_take]; omega
      have hpl := d.place_lt hf pg hN hhf hpg
      have hput := put_cases d (d.place hf pg) ep pg b2 hd hpl (by omega)
      have hok := put_ok d (d.place hf pg : Nat) ep pg b2 h1
      have hpk := put_pg h2 hK (d.place hf pg) ep pg b2 hd hpl (by omega) he (ht pg (Nat.le_refl _) hpg)
      unfold pourP
      rw [if_neg hb0, hn]
      dsimp only
      rw [hb2]
      obtain ⟨d2, hd2⟩ : ∃ d2, d.put (d.place hf pg : Nat) ep pg b2 = d2 := ⟨_, rfl⟩
      obtain ⟨e2, he2⟩ : ∃ e2, d.putE (d.place hf pg : Nat) ep pg b2 = e2 := ⟨_, rfl⟩
      rw [hd2, he2] at hput
      rw [hd2] at hok hpk
      rw [hd2, he2]
      obtain ⟨hk, hbd, hput⟩ := hput
      rcases hput with ⟨hbt, rfl, hlo, hde⟩ | ⟨rfl, hlo, hde⟩
      · rw [if_pos (by decide)]; exact ⟨hok, hpk⟩
      · rw [if_neg (by decide)]
        have hr := Dsk.room_kept hk
        by_cases h113 : b2.length = 113
        · rw [if_pos h113]
          refine pour_pg hK hf ep hhf he f d2 (pg + 1) [] (b.drop n) (by rw [List.length_drop]; omega) (by rw [hk]; exact hN) hde hok hpk (by decide) (by rw [hr, List.length_drop]; simp only [List.length_nil]; omega) (fun i hi1 hi2 => ?_)
          rw [hr] at hi2
          have hc : d2.cur (d2.place hf i) = d.cur (d.place hf i) := by
            rw [Dsk.place_kept hk]
            unfold Dsk.cur Dsk.now
            rw [hlo, hk]
            have : d.place hf i ≠ d.place hf pg := fun e => by have := d.place_inj hf _ _ e; omega
            simp only [this, if_false]
          rw [hc]
          exact ht i (by omega) hi2
        · rw [if_neg h113]
          have h0 : (b.drop n).length = 0 := by rw [List.length_drop]; omega
          rw [pourP_nil _ _ _ _ _ _ _ h0]
          exact ⟨hok, hpk⟩
/-- A sync: the power goes, or all is kept. -/
theorem synced_cases (d : Dsk) (hd : d.dead = false) :
    d.synced.bound = d.bound ∧ d.synced.kept.length = d.kept.length ∧
    ((d.bound = true ∧ d.actE = 9 ∧ d.synced.kept = d.kept ∧ d.synced.loose = d.loose ∧ d.synced.dead = true) ∨
     (d.actE = 0 ∧ d.synced.dead = false ∧ (∀ i, i < d.kept.length → d.synced.kpt i = d.cur i) ∧ d.synced.loose = fun _ => none)) := by
  unfold Dsk.synced Dsk.actE
  cases hs : d.stops with
  | true =>
    have hb : d.bound = true := by
      unfold Dsk.stops at hs
      rw [hd] at hs
      simp at hs
      exact hs.1
    have hact : d.acted = { d with dead := true } := by unfold Dsk.acted; rw [hs]; rfl
    simp only [if_true]
    rw [hact]
    exact ⟨rfl, rfl, .inl ⟨hb, by trivial, rfl, rfl, rfl⟩⟩
  | false =>
    simp only [Bool.false_eq_true, if_false]
    have hbd : d.acted.bound = d.bound := by unfold Dsk.acted; rw [hs]; simp only [Bool.false_eq_true, if_false]; split <;> simp_all
    have hdd : d.acted.dead = false := by unfold Dsk.acted; rw [hs]; simp only [Bool.false_eq_true, if_false]; split <;> simp_all
    refine ⟨hbd, by simp, .inr ⟨by trivial, hdd, fun i hi => ?_, by trivial⟩⟩
    unfold Dsk.kpt Dsk.cur
    dsimp only
    rw [List.getD_eq_getElem?_getD, List.getElem?_map, List.getElem?_range hi]
    rfl
theorem kpt_out (d : Dsk) (i : Nat) (h : d.kept.length ≤ i) : d.kpt i = Z 128 := by
  unfold Dsk.kpt
  rw [List.getD_eq_getElem?_getD, List.getElem?_eq_none h]
  rfl
theorem synced_pg {K : Nat} {d : Dsk} (h : PgOk K d) (hd : d.dead = false) : PgOk K d.synced := by
  obtain ⟨_, hl, ⟨_, _, h1, h2, _⟩ | ⟨_, _, h1, h2⟩⟩ := synced_cases d hd
  · exact h.congr h1 h2
  · refine ⟨fun i => ?_, fun i s hs => by rw [h2] at hs; cases hs⟩
    rcases Nat.lt_or_ge i d.kept.length with hi | hi
    · rw [h1 i hi]; exact (h.cur i).1
    · rw [kpt_out _ _ (by rw [hl]; exact hi)]; exact Pgs.zero K
theorem crash_pg {K : Nat} {d : Dsk} (h : PgOk K d) (keep : List Int) (torn cut : Int) : PgOk K (d.crashed keep torn cut) := by
  refine ⟨fun i => ?_, fun i s hs => by cases hs⟩
  rcases Nat.lt_or_ge i d.kept.length with hi | hi
  · exact (crash_page d h keep torn cut i hi).1
  · rw [kpt_out _ _ (by rw [crash_len]; exact hi)]; exact Pgs.zero K
/-- All pages of a half, the last one too. -/
def allD (C : List (List UInt8)) (bs : List UInt8) : List (List UInt8) := if bs = [] then C else C ++ [bs]
theorem allD_flat (C : List (List UInt8)) (bs : List UInt8) : (allD C bs).flatten = C.flatten ++ bs := by
  unfold allD
  split
  · rename_i h; rw [h, List.append_nil]
  · simp
theorem allD_len (C : List (List UInt8)) (bs : List UInt8) : (allD C bs).length = if 0 < bs.length then C.length + 1 else C.length := by
  unfold allD
  split
  · rename_i h; rw [h]; rfl
  · rename_i h
    have : 0 < bs.length := by
      rcases Nat.eq_zero_or_pos bs.length with h0 | h0
      · exact absurd (List.eq_nil_of_length_eq_zero h0) h
      · exact h0
    rw [if_pos this, List.length_append]; rfl
theorem Half.allLe {d : Dsk} {hf ep q pg : Nat} {C : List (List UInt8)} {bs : List UInt8} (h : Half d hf ep q pg C bs) : (allD C bs).length ≤ d.room ∧ q ≤ (allD C bs).length ∧ ∀ c ∈ allD C bs, c.length ≤ 113 := by
  have h1 := h.len
  have h2 := h.qpg
  refine ⟨?_, ?_, ?_⟩
  · rw [allD_len]
    rcases h.fit with hf | ⟨hf, rfl⟩
    · split <;> omega
    · simp; omega
  · rw [allD_len]; split <;> omega
  · intro c hc
    unfold allD at hc
    split at hc
    · exact h.chunk c hc
    · rcases List.mem_append.1 hc with hc | hc
      · exact h.chunk c hc
      · rw [List.mem_singleton.1 hc]; exact Nat.le_of_lt h.bsl
theorem getD_left {α : Type} (A B : List α) (i : Nat) (x : α) (h : i < A.length) : (A ++ B).getD i x = A.getD i x := by
  rw [List.getD_eq_getElem?_getD, List.getD_eq_getElem?_getD, List.getElem?_append_left h]
theorem allD_get (C : List (List UInt8)) (bs : List UInt8) (i : Nat) (h : i < C.length) : (allD C bs).getD i [] = C.getD i [] := by
  unfold allD
  split
  · rfl
  · exact getD_left _ _ _ _ h
theorem allD_last (C : List (List UInt8)) (bs : List UInt8) (h : bs ≠ []) : (allD C bs).getD C.length [] = bs := by
  unfold allD
  rw [if_neg h, List.getD_eq_getElem?_getD, List.getElem?_append_right (Nat.le_refl _), Nat.sub_self]
  rfl
theorem fold_len {ep ix st : Nat} {bs : List UInt8} (h : bs.length ≤ 113) : (foldP ep ix bs st).length = 128 := foldP_length h
/-- What a half's pages are now. -/
theorem Half.now {d : Dsk} {hf ep q pg : Nat} {C : List (List UInt8)} {bs : List UInt8} (h : Half d hf ep q pg C bs) :
    (∀ i, i < (allD C bs).length → ∃ st, st < 4294967296 ∧ d.cur (d.place hf i) = foldP ep i ((allD C bs).getD i []) st) ∧
    (∀ i, (allD C bs).length ≤ i → i < d.room → d.loose (d.place hf i) = none ∧ (lookP (d.kpt (d.place hf i))).epoch < ep) := by
  have hl := h.len
  have hall := h.allLe
  constructor
  · intro i hi
    have hch : ((allD C bs).getD i []).length ≤ 113 := by
      rw [List.getD_eq_getElem?_getD, List.getElem?_eq_getElem hi]; exact hall.2.2 _ (List.getElem_mem hi)
    rcases Nat.lt_or_ge i C.length with hC | hC
    · rw [allD_get _ _ _ hC] at hch ⊢
      rcases Nat.lt_or_ge i q with hq | hq
      · obtain ⟨h1, st, h2, h3⟩ := h.sync i hq
        exact ⟨st, h2, by rw [Dsk.cur_none h1, h3]⟩
      · obtain ⟨st, h2, h3⟩ := h.tail i hq (by omega)
        exact ⟨st, h2, Dsk.cur_some h3 (fold_len hch)⟩
    · rw [allD_len] at hi
      have hbs : 0 < bs.length := by
        rcases Nat.eq_zero_or_pos bs.length with h0 | h0
        · rw [if_neg (by omega)] at hi; omega
        · exact h0
      rw [if_pos hbs] at hi
      have hne : bs ≠ [] := fun e => by rw [e] at hbs; exact absurd hbs (by decide)
      have hip : i = C.length := by omega
      subst hip
      rw [allD_last _ _ hne] at hch ⊢
      have hpr : pg < d.room := by
        rcases h.fit with hf | ⟨_, e⟩
        · exact hf
        · exact absurd e hne
      obtain ⟨st, h2, h3⟩ := (h.last hpr).2 hne
      rw [← hl] at h3
      exact ⟨st, h2, by rw [Dsk.cur_some h3 (fold_len hch), hl]⟩
  · intro i hi hir
    have hq := h.qpg
    rw [allD_len] at hi
    refine ⟨?_, h.old i (by split at hi <;> omega) hir⟩
    by_cases hip : i = pg
    · subst hip
      have hb : bs = [] := by
        refine List.eq_nil_of_length_eq_zero ?_
        rcases Nat.eq_zero_or_pos bs.length with h0 | h0
        · exact h0
        · rw [if_pos h0] at hi; omega
      exact (h.last hir).1 hb
    · exact h.rest i (by split at hi <;> omega) hir
/-- A half behind a sync. -/
theorem Half.synced {d d2 : Dsk} {hf ep q pg : Nat} {C : List (List UInt8)} {bs : List UInt8} (h : Half d hf ep q pg C bs) (hhf : hf ≤ 1) (hN : 8 ≤ d.kept.length) (hlen : d2.kept.length = d.kept.length) (hk : ∀ i, i < d.room → d2.kpt (d.place hf i) = d.cur (d.place hf i)) (hl : ∀ i, i < d.room → d2.loose (d.place hf i) = none) :
    Half d2 hf ep (allD C bs).length (allD C bs).length (allD C bs) [] := by
  have hr : d2.room = d.room := by unfold Dsk.room; rw [hlen]
  have hp : ∀ i, d2.place hf i = d.place hf i := fun i => by unfold Dsk.place; rw [hr]
  have hall := h.allLe
  have hnow := h.now
  refine ⟨Nat.le_refl _, rfl, ?_, hall.2.2, by decide, fun i hi => ?_, fun i h1 h2 => by omega, fun h1 => ⟨fun _ => ?_, fun e => absurd rfl e⟩, fun i h1 h2 => ?_, fun i h1 h2 => ?_⟩
  · rw [hr]
    rcases Nat.lt_or_ge (allD C bs).length d.room with h1 | h1
    · exact .inl h1
    · exact .inr ⟨by omega, rfl⟩
  · rw [hp, hl i (by omega), hk i (by omega)]
    exact ⟨rfl, hnow.1 i hi⟩
  · rw [hr] at h1; rw [hp]; exact hl _ h1
  · rw [hr] at h2; rw [hp]; exact hl _ h2
  · rw [hr] at h2
    obtain ⟨k1, k2⟩ := hnow.2 i h1 h2
    rw [hp, hk i h2, Dsk.cur_none k1]
    exact k2
end Go.Proofs.Ytjfpanamkkdebaa
namespace Go.Proofs.Ytjfpanamkkdebaa
open Go.RowKit
set_option linter.unusedVariables false
set_option linter.unusedSimpArgs false
/-- A device on which a log's slots stand. -/
structure Dev (K : Nat) (d : Dsk) (hf ep sl : Nat) : Prop where
  ok : d.Ok
  n8 : 8 ≤ d.kept.length
  hf1 : hf ≤ 1
  sl1 : sl ≤ 1
  ep0 : 0 < ep
  epK : ep ≤ K
  pg : PgOk K d
  slot : d.loose sl = none ∧ ∃ st, st < 4294967296 ∧ d.kpt sl = foldP ep 0 [UInt8.ofNat hf] st
  other : d.loose (1 - sl) = none ∧ ((lookP (d.kpt (1 - sl))).whole = true → (lookP (d.kpt (1 - sl))).epoch < ep)
/-- .. of which the log's own slot may be without a log. -/
structure Dev0 (K : Nat) (d : Dsk) (hf ep sl : Nat) : Prop where
  ok : d.Ok
  n8 : 8 ≤ d.kept.length
  hf1 : hf ≤ 1
  sl1 : sl ≤ 1
  epK : ep ≤ K
  pg : PgOk K d
  slotN : d.loose sl = none
  otherN : d.loose (1 - sl) = none
  low : (lookP (d.kpt sl)).epoch ≤ ep
theorem Dev.zero {K : Nat} {d : Dsk} {hf ep sl : Nat} (h : Dev K d hf ep sl) (hK : K < 256) : Dev0 K d hf ep sl := by
  refine ⟨h.ok, h.n8, h.hf1, h.sl1, h.epK, h.pg, h.slot.1, h.other.1, ?_⟩
  obtain ⟨_, st, h1, h2⟩ := h.slot
  have := h.epK
  rw [h2, look_fold (by simp) h.ep0 (by omega) (by decide) h1]
  exact Nat.le_refl _
theorem place_slot (d : Dsk) (hf i sl : Nat) (h : sl ≤ 1) : sl ≠ d.place hf i := by unfold Dsk.place; omega
theorem place_half (d : Dsk) (hf i j : Nat) (h : hf ≤ 1) (hi : i < d.room) (hj : j < d.room) : d.place hf i ≠ d.place (1 - hf) j := by
  unfold Dsk.place
  have : hf = 0 ∨ hf = 1 := by omega
  rcases this with rfl | rfl
  · simp; omega
  · simp; omega
theorem Dsk.topE_ge (d : Dsk) (hf ep : Nat) : ∀ n, ep ≤ d.topE hf n ep ∧ ∀ i, i < n → (d.sheet (d.place hf i : Nat)).epoch ≤ d.topE hf n ep
  | 0 => ⟨Nat.le_refl _, fun i h => by omega⟩
  | n + 1 => by
    have ih := d.topE_ge hf ep n
    unfold Dsk.topE
    refine ⟨by omega, fun i hi => ?_⟩
    rcases Nat.lt_or_ge i n with h | h
    · have := ih.2 i h; omega
    · have : i = n := by omega
      subst this; omega
theorem Dsk.topE_le (d : Dsk) (hf ep K : Nat) (he : ep ≤ K) : ∀ n, (∀ i, i < n → (d.sheet (d.place hf i : Nat)).epoch ≤ K) → d.topE hf n ep ≤ K
  | 0, _ => he
  | n + 1, h => by
    have ih := d.topE_le hf ep K he n (fun i hi => h i (by omega))
    have := h n (by omega)
    unfold Dsk.topE
    omega
/-- What laying a log anew leaves: of epoch e2, from the device d1 that the pouring leaves. -/
structure LayOut (K : Nat) (d : Dsk) (hf ep sl : Nat) (T : List UInt8) (R : Laid) (e2 : Nat) (d1 : Dsk) : Prop where
  ee : ep < e2 ∧ e2 ≤ K
  kept : d1.kept = d.kept
  off : ∀ j, (∀ i, i < d.room → j ≠ d.place (1 - hf) i) → d1.loose j = d.loose j
  ok1 : d1.Ok
  pg1 : PgOk K d1
  ok : R.d.Ok
  pg : PgOk K R.d
  len : R.d.kept.length = d.kept.length
  out : (R.e ≠ 0 ∧ d.bound = true ∧ R.d.kept = d1.kept ∧ R.d.loose = d1.loose) ∨
    (∃ pg' C' bs', Half d1 (1 - hf) e2 0 pg' C' bs' ∧ C'.flatten ++ bs' = T ∧
      ((R.e ≠ 0 ∧ d.bound = true ∧ (∀ i, i < d.kept.length → R.d.kpt i = d1.cur i) ∧ ((R.d.loose = fun _ => none) ∨ ∃ st, st < 4294967296 ∧ R.d.loose = fun j => if j = 1 - sl then some (foldP e2 0 [UInt8.ofNat (1 - hf)] st) else none)) ∨
       (R.e = 0 ∧ R.ep = e2 ∧ R.pg = (allD C' bs').length ∧ R.d.dead = false ∧ R.d.bound = d.bound ∧ (R.d.loose = fun _ => none) ∧ (∀ i, i < d.kept.length → i ≠ 1 - sl → R.d.kpt i = d1.cur i) ∧ ∃ st, st < 4294967296 ∧ R.d.kpt (1 - sl) = foldP e2 0 [UInt8.ofNat (1 - hf)] st)))
theorem lay_main {K : Nat} {d : Dsk} {hf ep sl : Nat} (H : Dev0 K d hf ep sl) (hK : K + 1 < 256) (hd : d.dead = false) (ho : ∀ i, i < d.room → d.loose (d.place (1 - hf) i) = none) (snap : List UInt8) (recs : List (List UInt8)) (hfit : growP 0 0 (allP snap recs).length d.room = true) :
    ∃ e2 d1, LayOut (K + 1) d hf ep sl (allP snap recs) (layP hf ep sl d snap recs) e2 d1 := by
  have hm := d.room_le H.ok.most
  have h1f : 1 - hf ≤ 1 := by omega
  have hN := H.n8
  have hshe : ∀ i, i < d.room → (d.sheet (d.place (1 - hf) i : Nat)).epoch ≤ K ∧ d.cur (d.place (1 - hf) i) = d.kpt (d.place (1 - hf) i) := by
    intro i hi
    have hc := Dsk.cur_none (ho i hi)
    refine ⟨?_, hc⟩
    rw [d.sheet_now _ hd (d.place_lt _ i H.n8 h1f hi)]
    show (lookP (d.cur (d.place (1 - hf) i))).epoch ≤ K
    rw [(H.pg.cur _).1.epoch]
    exact (H.pg.cur _).1.epK
  have htop := d.topE_le (1 - hf) ep K H.epK d.room (fun i hi => (hshe i hi).1)
  have hge := d.topE_ge (1 - hf) ep d.room
  have hnext : d.nextE (1 - hf) ep = 0 := by
    unfold Dsk.nextE
    rw [hd]
    simp only [Bool.false_eq_true, if_false]
    rw [if_neg (by omega)]
  obtain ⟨e2, he2⟩ : ∃ e2, d.topE (1 - hf) d.room ep + 1 = e2 := ⟨_, rfl⟩
  have he2a : ep < e2 := by omega
  have he2b : e2 ≤ K + 1 := by omega
  have H0 : Half d (1 - hf) e2 0 0 [] [] := by
    refine ⟨Nat.le_refl _, rfl, .inl (by unfold Dsk.room; omega), by simp, by decide, fun i hi => by omega, fun i h1 h2 => by omega, fun h1 => ⟨fun _ => ho 0 h1, fun h => absurd rfl h⟩, fun i h1 h2 => ho i h2, fun i h1 h2 => ?_⟩
    have := hge.2 i h2
    rw [d.sheet_now _ hd (d.place_lt _ i H.n8 h1f h2)] at this
    rw [← (hshe i h2).2]
    show (lookP (d.cur (d.place (1 - hf) i))).epoch < e2
    have e : lookP (pad (d.now (d.place (1 - hf) i))) = lookP (d.cur (d.place (1 - hf) i)) := rfl
    rw [e] at this
    omega
  obtain ⟨all, hall⟩ : ∃ all, allP snap recs = all := ⟨_, rfl⟩
  rw [hall] at hfit
  have hfit2 : 0 * 113 + ([] : List UInt8).length + all.length ≤ d.room * 113 := by
    unfold growP at hfit
    simp at hfit ⊢
    omega
  have hP := pour_half (1 - hf) e2 0 h1f all.length d 0 [] [] all (Nat.le_refl _) H.n8 hd H0 hfit2
  have hP2 := pour_pg (K := K + 1) hK (1 - hf) e2 h1f he2b all.length d 0 [] all (Nat.le_refl _) H.n8 hd H.ok (H.pg.mono (by omega)) (by decide) hfit2 (fun i _ _ => by have := (H.pg.cur (d.place (1 - hf) i)).1.tlK; omega)
  have hlay : layP hf ep sl d snap recs =
      (let p := pourP (1 - hf) e2 all.length d 0 [] all
       if p.e ≠ 0 then ⟨p.e, p.d, 0, 0⟩
       else if p.d.actE ≠ 0 then ⟨p.d.actE, p.d.synced, 0, 0⟩
       else if p.d.synced.putE (1 - sl : Nat) e2 0 [UInt8.ofNat (1 - hf)] ≠ 0 then ⟨p.d.synced.putE (1 - sl : Nat) e2 0 [UInt8.ofNat (1 - hf)], p.d.synced.put (1 - sl : Nat) e2 0 [UInt8.ofNat (1 - hf)], 0, 0⟩
       else if (p.d.synced.put (1 - sl : Nat) e2 0 [UInt8.ofNat (1 - hf)]).actE ≠ 0 then ⟨(p.d.synced.put (1 - sl : Nat) e2 0 [UInt8.ofNat (1 - hf)]).actE, (p.d.synced.put (1 - sl : Nat) e2 0 [UInt8.ofNat (1 - hf)]).synced, 0, 0⟩
       else ⟨0, (p.d.synced.put (1 - sl : Nat) e2 0 [UInt8.ofNat (1 - hf)]).synced, if 0 < p.bs.length then p.pg + 1 else p.pg, e2⟩ : Laid) := by
    unfold layP
    rw [hall, hfit, if_neg (by simp), hnext, if_neg (by simp), he2]
  rw [hlay, hall]
  dsimp only
  obtain ⟨P, hPe⟩ : ∃ P, pourP (1 - hf) e2 all.length d 0 [] all = P := ⟨_, rfl⟩
  rw [hPe] at hP hP2 ⊢
  obtain ⟨d1, pp, pbs, pe⟩ := P
  dsimp only at hP hP2 ⊢
  have hnil : ([] : List (List UInt8)).flatten ++ ([] : List UInt8) = [] := rfl
  rw [hnil] at hP
  refine ⟨e2, d1, ?_⟩
  by_cases hpe : pe ≠ 0
  · rw [if_pos hpe]
    exact ⟨⟨he2a, he2b⟩, hP.kept, hP.off, hP2.1, hP2.2, hP2.1, hP2.2, by rw [hP.kept], .inl ⟨hpe, (hP.bad hpe).2, rfl, rfl⟩⟩
  · have hpe0 : pe = 0 := by omega
    subst hpe0
    rw [if_neg hpe]
    have hd1 := hP.ok rfl
    obtain ⟨pg', C', bs', k1, k2, k3, k4⟩ := hP.half
    obtain ⟨rfl, rfl, k5⟩ := k4 rfl
    rw [List.nil_append] at k5
    have hs1 := synced_cases d1 hd1
    have hs1ok := hP2.1.synced
    have hs1pg := synced_pg hP2.2 hd1
    have hlen1 : d1.kept.length = d.kept.length := by rw [hP.kept]
    obtain ⟨s1, s2, ⟨b1, b2, b3, b4, b5⟩ | ⟨a1, a2, a3, a4⟩⟩ := hs1
    · rw [if_pos (by rw [b2]; decide), b2]
      exact ⟨⟨he2a, he2b⟩, hP.kept, hP.off, hP2.1, hP2.2, hs1ok, hs1pg, by rw [b3, hP.kept], .inl ⟨(by show (9 : Nat) ≠ 0; decide), by rw [← hP.bound]; exact b1, b3, b4⟩⟩
    · rw [if_neg (by omega)]
      obtain ⟨d2, hd2⟩ : ∃ d2, d1.synced = d2 := ⟨_, rfl⟩
      rw [hd2] at s1 s2 a2 a3 a4 hs1ok hs1pg ⊢
      rw [hlen1] at s2 a3
      have hsl2 : 1 - sl < d2.kept.length := by rw [s2]; omega
      have hput := put_cases d2 (1 - sl) e2 0 [UInt8.ofNat (1 - hf)] a2 hsl2 (by simp)
      have hputok := put_ok d2 (1 - sl : Nat) e2 0 [UInt8.ofNat (1 - hf)] hs1ok
      have hcsl : d2.cur (1 - sl) = d.kpt (1 - sl) := by
        rw [Dsk.cur_none (by rw [a4]), a3 _ (by omega)]
        rw [Dsk.cur_none (by rw [hP.off _ (fun i _ => place_slot d (1 - hf) i _ (by omega))]; exact H.otherN), Dsk.kpt_kept hP.kept]
      have hputpg := put_pg hs1pg hK (1 - sl) e2 0 [UInt8.ofNat (1 - hf)] a2 hsl2 (by simp) he2b (by rw [hcsl]; have := (H.pg.kept (1 - sl)).tlK; omega)
      have hst := d2.stamp_lt (1 - sl : Nat)
      obtain ⟨d3, hd3⟩ : ∃ d3, d2.put (1 - sl : Nat) e2 0 [UInt8.ofNat (1 - hf)] = d3 := ⟨_, rfl⟩
      obtain ⟨e3, he3⟩ : ∃ e3, d2.putE (1 - sl : Nat) e2 0 [UInt8.ofNat (1 - hf)] = e3 := ⟨_, rfl⟩
      rw [hd3, he3] at hput
      rw [hd3] at hputok hputpg
      rw [hd3, he3]
      obtain ⟨q1, q2, ⟨c1, rfl, c3, c4⟩ | ⟨rfl, c3, c4⟩⟩ := hput
      · rw [if_pos (by decide)]
        refine ⟨⟨he2a, he2b⟩, hP.kept, hP.off, hP2.1, hP2.2, hputok, hputpg, by rw [q1, s2], .inr ⟨_, _, _, k1, k5, .inl ⟨(by show (9 : Nat) ≠ 0; decide), by rw [← hP.bound, ← s1]; exact c1, fun i hi => by rw [Dsk.kpt_kept q1]; exact a3 i hi, .inl (by rw [c3, a4])⟩⟩⟩
      · rw [if_neg (by decide)]
        have hlo3 : d3.loose = fun j => if j = 1 - sl then some (foldP e2 0 [UInt8.ofNat (1 - hf)] (d2.stamp (1 - sl : Nat))) else none := by rw [c3, a4]
        have hs3 := synced_cases d3 c4
        have hs3ok := hputok.synced
        have hs3pg := synced_pg hputpg c4
        have hb3 : d3.bound = d.bound := by rw [q2, s1, hP.bound]
        have hl3 : d3.kept.length = d.kept.length := by rw [q1, s2]
        obtain ⟨t1, t2, ⟨b1, b2, b3, b4, b5⟩ | ⟨u1, u2, u3, u4⟩⟩ := hs3
        · rw [if_pos (by rw [b2]; decide), b2]
          refine ⟨⟨he2a, he2b⟩, hP.kept, hP.off, hP2.1, hP2.2, hs3ok, hs3pg, by rw [t2, hl3], .inr ⟨_, _, _, k1, k5, .inl ⟨(by show (9 : Nat) ≠ 0; decide), by rw [← hb3]; exact b1, fun i hi => by rw [Dsk.kpt_kept (b3.trans q1)]; exact a3 i hi, .inr ⟨_, hst, by rw [b4, hlo3]⟩⟩⟩⟩
        · rw [if_neg (by omega)]
          have hpgl : (if 0 < pbs.length then pp + 1 else pp) = (allD C' pbs).length := by rw [allD_len, k1.len]
          refine ⟨⟨he2a, he2b⟩, hP.kept, hP.off, hP2.1, hP2.2, hs3ok, hs3pg, by rw [t2, hl3], .inr ⟨_, _, _, k1, k5, .inr ⟨rfl, rfl, hpgl, u2, by rw [t1, hb3], u4, fun i hi hne => ?_, ⟨_, hst, ?_⟩⟩⟩⟩
          · show d3.synced.kpt i = _
            rw [u3 i (by rw [hl3]; exact hi), Dsk.cur_none (by rw [hlo3]; simp [hne]), Dsk.kpt_kept q1, a3 i hi]
          · show d3.synced.kpt (1 - sl) = _
            rw [u3 _ (by rw [hl3]; omega), Dsk.cur_some (s := foldP e2 0 [UInt8.ofNat (1 - hf)] (d2.stamp (1 - sl : Nat))) (by rw [hlo3]; simp) (fold_len (by simp))]
end Go.Proofs.Ytjfpanamkkdebaa
namespace Go.Proofs.Ytjfpanamkkdebaa
open Go.RowKit
set_option linter.unusedVariables false
set_option linter.unusedSimpArgs false
/-- A device behind a crash. -/
structure Clean (K : Nat) (d : Dsk) (hf ep sl : Nat) : Prop where
  dev : Dev K d hf ep sl
  loose : ∀ i, d.loose i = none
  alive : d.dead = false
  unb : d.bound = false
/-- A log as its pages have it. -/
structure LInv (K : Nat) (L : Lg) : Prop where
  dev : Dev K L.d L.hf L.ep L.sl
  alive : L.d.dead = false
  half : ∃ q C, Half L.d L.hf L.ep q L.pg C L.bs ∧ C.flatten ++ L.bs = allP L.snap L.recs ∧ (C.take q).flatten = allP L.snap (L.recs.take L.su)
  su : L.su ≤ L.recs.length
  oth : ∀ i, i < L.d.room → L.d.loose (L.d.place (1 - L.hf) i) = none
  snapl : L.snap.length ≤ 262144
  recl : ∀ r ∈ L.recs, r.length ≤ 262144
theorem stream_congr {d d2 : Dsk} {hf ep : Nat} (hd : d.dead = false) (hd2 : d2.dead = false) (hn : 8 ≤ d.kept.length) (hl : d2.kept.length = d.kept.length) (hhf : hf ≤ 1) (hc : ∀ i, i < d.room → d2.cur (d.place hf i) = d.cur (d.place hf i)) :
    ∀ n i, i + n = d.room → d2.streamFrom hf ep n i = d.streamFrom hf ep n i := by
  have hr : d2.room = d.room := by unfold Dsk.room; rw [hl]
  have hp : ∀ i, d2.place hf i = d.place hf i := fun i => by unfold Dsk.place; rw [hr]
  intro n
  induction n with
  | zero => intro i _; rfl
  | succ n ih =>
    intro i hi
    have hir : i < d.room := by omega
    have hs : d2.sheet (d.place hf i : Nat) = d.sheet (d.place hf i : Nat) := by
      rw [d2.sheet_now _ hd2 (by rw [hl]; exact d.place_lt hf i hn hhf hir), d.sheet_now _ hd (d.place_lt hf i hn hhf hir)]
      show lookP (d2.cur _) = lookP (d.cur _)
      rw [hc i hir]
    have hg : d2.goodAt hf ep i ↔ d.goodAt hf ep i := by unfold Dsk.goodAt; rw [hp, hs]
    unfold Dsk.streamFrom
    by_cases g : d.goodAt hf ep i
    · rw [if_pos g, if_pos (hg.2 g), hp, hs, ih (i + 1) (by omega)]
    · rw [if_neg g, if_neg (fun h => g (hg.1 h))]
theorem Dsk.hasP_eq (d : Dsk) (hf ep sl : Nat) (h : d.foundS 2 = ⟨hf, ep, sl⟩) : d.hasP = partsP (d.streamFrom hf ep d.room 0).length (d.streamFrom hf ep d.room 0) := by
  unfold Dsk.hasP
  rw [h]
theorem Dev.found {K : Nat} {d : Dsk} {hf ep sl : Nat} (h : Dev K d hf ep sl) (hK : K < 256) (hd : d.dead = false) : d.foundS 2 = ⟨hf, ep, sl⟩ := by
  obtain ⟨s1, st, s2, s3⟩ := h.slot
  have he := h.epK
  refine found_of d hf ep sl st hd h.n8 h.hf1 h.sl1 h.ep0 (by omega) s2 (by rw [Dsk.cur_none s1]; exact s3) ?_
  rw [Dsk.cur_none h.other.1]
  exact h.other.2
/-- A slot's page on which nothing was written since. -/
theorem crash_kept {K : Nat} {d : Dsk} (hp : PgOk K d) (keep : List Int) (torn cut : Int) (i : Nat) (hi : i < d.kept.length) (hl : d.loose i = none) : (d.crashed keep torn cut).cur i = d.kpt i := by
  rcases (crash_page d hp keep torn cut i hi).2 with h | ⟨s, hs, _⟩
  · exact h
  · rw [hl] at hs; cases hs
theorem Dev.crash {K : Nat} {d : Dsk} {hf ep sl : Nat} (h : Dev K d hf ep sl) (keep : List Int) (torn cut : Int) : Clean K (d.crashed keep torn cut) hf ep sl := by
  have hn := h.n8
  have hs1 := h.sl1
  have e1 := crash_kept h.pg keep torn cut sl (by omega) h.slot.1
  have e2 := crash_kept h.pg keep torn cut (1 - sl) (by omega) h.other.1
  exact ⟨⟨h.ok.crashed keep torn cut, by rw [crash_len]; exact h.n8, h.hf1, h.sl1, h.ep0, h.epK, crash_pg h.pg keep torn cut, ⟨rfl, by rw [crash_kpt, e1]; exact h.slot.2⟩, ⟨rfl, by rw [crash_kpt, e2]; exact h.other.2⟩⟩, fun _ => rfl, rfl, rfl⟩
theorem take_flat_prefix (D : List (List UInt8)) (i j : Nat) (h : i ≤ j) : (D.take i).flatten <+: (D.take j).flatten := by
  have e : D.take i = (D.take j).take i := by rw [List.take_take, Nat.min_eq_left h]
  rw [e]
  refine ⟨((D.take j).drop i).flatten, ?_⟩
  rw [← List.flatten_append, List.take_append_drop]
theorem allD_take (C : List (List UInt8)) (bs : List UInt8) (q : Nat) (h : q ≤ C.length) : (allD C bs).take q = C.take q := by
  unfold allD
  split
  · rfl
  · rw [List.take_append_of_le_length h]
/-- A half's pages behind a crash: the first ones, those among them that were kept. -/
theorem crash_half {K : Nat} {d : Dsk} {hf ep sl q pg : Nat} {C : List (List UInt8)} {bs : List UInt8} (H : Dev K d hf ep sl) (hK : K < 256) (hh : Half d hf ep q pg C bs) (snap : List UInt8) (recs : List (List UInt8)) (su : Nat)
    (hT : C.flatten ++ bs <+: allP snap recs) (hQ : allP snap (recs.take su) <+: (C.take q).flatten) (hsu : su ≤ recs.length) (hs : snap.length ≤ 262144) (hr : ∀ r ∈ recs, r.length ≤ 262144) (keep : List Int) (torn cut : Int) :
    ∃ k, su ≤ k ∧ k ≤ recs.length ∧ (d.crashed keep torn cut).hasP = snap :: recs.take k := by
  have hc := H.crash keep torn cut
  have hfo := hc.dev.found hK rfl
  have he := H.epK
  obtain ⟨dc, hdc⟩ : ∃ dc, d.crashed keep torn cut = dc := ⟨_, rfl⟩
  have hlen : dc.kept.length = d.kept.length := by rw [← hdc, crash_len]
  have hroom : dc.room = d.room := by rw [← hdc, crash_room]
  have hpl : ∀ i, dc.place hf i = d.place hf i := fun i => by rw [← hdc, crash_place]
  have hall := hh.allLe
  have hpage : ∀ i, i < d.room → (dc.cur (d.place hf i) = d.kpt (d.place hf i) ∨ ∃ s, d.loose (d.place hf i) = some s ∧ (dc.cur (d.place hf i) = s ∨ (lookP (dc.cur (d.place hf i))).whole = false)) := fun i hi => by
    rw [← hdc]; exact (crash_page d H.pg keep torn cut _ (d.place_lt hf i H.n8 H.hf1 hi)).2
  have hq := hh.qpg
  have hl := hh.len
  rw [hdc] at hfo hc ⊢
  have hst := stream_of dc hf ep q (allD C bs) hc.alive (by rw [hlen]; exact H.n8) H.hf1 H.ep0 (by omega) hall.2.2 (by rw [hroom]; exact hall.1) hall.2.1 (by rw [hlen]; exact H.ok.most) ?_ ?_
  · obtain ⟨r, r1, r2, r3⟩ := hst
    rw [dc.hasP_eq hf ep sl hfo, r3]
    have h1 := take_flat_prefix (allD C bs) q r r1
    rw [allD_take C bs q (by omega)] at h1
    have h2 : ((allD C bs).take r).flatten <+: (allD C bs).flatten := by
      have := take_flat_prefix (allD C bs) r (allD C bs).length r2
      rwa [List.take_length] at this
    rw [allD_flat] at h2
    exact parts_between snap recs su _ hs hr hsu (hQ.trans h1) (h2.trans hT)
  · intro i hi
    rw [hroom] at hi
    rw [hpl]
    rcases Nat.lt_or_ge i (allD C bs).length with hD | hD
    · rcases Nat.lt_or_ge i q with hiq | hiq
      · left
        obtain ⟨l1, st, l2, l3⟩ := hh.sync i hiq
        refine ⟨hD, st, l2, ?_⟩
        rw [allD_get _ _ _ (by omega)]
        rcases hpage i hi with h | ⟨s, h, _⟩
        · rw [h, l3]
        · rw [l1] at h; cases h
      · obtain ⟨st, l2, l3⟩ := hh.now.1 i hD
        rcases hpage i hi with h | ⟨s, h, h2 | h2⟩
        · right
          rw [h]
          intro hw
          have := hh.old i hiq hi
          omega
        · left
          rw [Dsk.cur_some h (H.pg.loose _ s h).1.len] at l3
          exact ⟨hD, st, l2, by rw [h2, l3]⟩
        · right
          rw [h2]
          intro hw
          exact absurd hw.1 (by decide)
    · right
      obtain ⟨l1, l2⟩ := hh.now.2 i hD hi
      rcases hpage i hi with h | ⟨s, h, _⟩
      · rw [h]; intro hw; omega
      · rw [l1] at h; cases h
  · intro i hiq
    rw [hpl]
    have hi : i < d.room := by omega
    obtain ⟨l1, st, l2, l3⟩ := hh.sync i hiq
    refine ⟨st, l2, ?_⟩
    rw [allD_get _ _ _ (by omega)]
    rcases hpage i hi with h | ⟨s, h, _⟩
    · rw [h, l3]
    · rw [l1] at h; cases h
/-- What is there now. -/
theorem now_half {K : Nat} {d : Dsk} {hf ep sl q pg : Nat} {C : List (List UInt8)} {bs : List UInt8} (H : Dev K d hf ep sl) (hK : K < 256) (hd : d.dead = false) (hh : Half d hf ep q pg C bs) (snap : List UInt8) (recs : List (List UInt8))
    (hT : C.flatten ++ bs = allP snap recs) (hs : snap.length ≤ 262144) (hr : ∀ r ∈ recs, r.length ≤ 262144) : d.hasP = snap :: recs := by
  have hfo := H.found hK hd
  have he := H.epK
  have hall := hh.allLe
  have hnow := hh.now
  have hst := stream_of d hf ep (allD C bs).length (allD C bs) hd H.n8 H.hf1 H.ep0 (by omega) hall.2.2 hall.1 (Nat.le_refl _) H.ok.most ?_ hnow.1
  · obtain ⟨r, r1, r2, r3⟩ := hst
    rw [show r = (allD C bs).length by omega, List.take_length, allD_flat, hT] at r3
    rw [d.hasP_eq hf ep sl hfo, r3]
    exact parts_all snap recs hs hr
  · intro i hi
    rcases Nat.lt_or_ge i (allD C bs).length with hD | hD
    · exact .inl ⟨hD, hnow.1 i hD⟩
    · right
      obtain ⟨l1, l2⟩ := hnow.2 i hD hi
      rw [Dsk.cur_none l1]
      intro hw
      omega
/-- A log that was laid anew stands. -/
theorem lay_done {K : Nat} {d : Dsk} {hf ep sl : Nat} {R : Laid} {e2 : Nat} {d1 : Dsk} (H : Dev0 K d hf ep sl) (hK : K + 1 < 256) (snap : List UInt8) (recs : List (List UInt8)) (hs : snap.length ≤ 262144) (hr : ∀ r ∈ recs, r.length ≤ 262144)
    (h : LayOut (K + 1) d hf ep sl (allP snap recs) R e2 d1) (he : R.e = 0) : LInv (K + 1) ⟨1 - hf, R.ep, 1 - sl, R.pg, [], R.d, snap, recs, recs.length⟩ ∧ R.d.bound = d.bound ∧ ∀ i, R.d.loose i = none := by
  have hf1 := H.hf1
  have hsl1 := H.sl1
  have hN := H.n8
  rcases h.out with ⟨h1, _⟩ | ⟨pg', C', bs', k1, k2, ⟨h1, _⟩ | ⟨h1, h2, h3, h4, h5, h6, h7, st, h8, h9⟩⟩
  · exact absurd he h1
  · exact absurd he h1
  · have hroom : R.d.room = d.room := by unfold Dsk.room; rw [h.len]
    have hpl : ∀ f i, R.d.place f i = d.place f i := fun f i => by unfold Dsk.place; rw [hroom]
    have hr1 : d1.room = d.room := Dsk.room_kept h.kept
    have hp1 : ∀ f i, d1.place f i = d.place f i := fun f i => Dsk.place_kept h.kept f i
    have hl1 : d1.kept.length = d.kept.length := by rw [h.kept]
    have hS := k1.synced (d2 := R.d) (by omega) (by rw [hl1]; exact H.n8) (by rw [h.len, hl1]) (fun i hi => by
      rw [hr1] at hi
      rw [hp1]
      exact h7 _ (d.place_lt _ i H.n8 (by omega) hi) (Ne.symm (place_slot d _ i _ (by omega)))) (fun i hi => by rw [h6])
    have hcs : d1.cur sl = d.kpt sl := by
      rw [Dsk.cur_none (by rw [h.off _ (fun i _ => place_slot d (1 - hf) i _ hsl1)]; exact H.slotN), Dsk.kpt_kept h.kept]
    have hss : 1 - (1 - sl) = sl := by omega
    refine ⟨⟨⟨h.ok, by rw [h.len]; exact H.n8, by dsimp only; omega, by dsimp only; omega, by dsimp only; rw [h2]; have := h.ee.1; omega, by dsimp only; rw [h2]; exact h.ee.2, h.pg, ⟨by dsimp only; rw [h6], st, h8, by dsimp only; rw [h2]; exact h9⟩, ⟨by dsimp only; rw [h6], ?_⟩⟩, h4, ⟨(allD C' bs').length, allD C' bs', by dsimp only; rw [h2, h3]; exact hS, by dsimp only; rw [List.append_nil, allD_flat, k2], by dsimp only; rw [List.take_length, allD_flat, k2, List.take_length]⟩, Nat.le_refl _, fun i _ => by rw [h6], hs, hr⟩, h5, fun i => by rw [h6]⟩
    dsimp only
    rw [hss, h7 sl (by omega) (by omega), hcs, h2]
    intro _
    have := H.low
    have := h.ee.1
    omega
/-- A device that has a log is opened, if the power stays. -/
theorem open_clean {K : Nat} {d : Dsk} {hf ep sl : Nat} (h : Clean K d hf ep sl) (hK : K + 1 < 256) (s : List UInt8) (rs : List (List UInt8)) (hh : d.hasP = s :: rs) :
    (openP d).e = 0 ∧ LInv (K + 1) (openLg d) ∧ (openLg d).d.bound = false ∧ (∀ i, (openLg d).d.loose i = none) ∧ (openLg d).snap = s ∧ (openLg d).recs = rs ∧ (openLg d).su = rs.length := by
  have H := h.dev
  have hfo := H.found (by omega) h.alive
  have hlen := d.hasP_len s rs hh
  rw [hfo] at hlen
  dsimp only at hlen
  have hsl := d.stream_le hf ep d.room 0
  have hm := d.room_le H.ok.most
  have hN := H.n8
  have hr0 : 0 < d.room := by unfold Dsk.room; omega
  have hop : openP d = layP hf ep sl d s rs := by
    unfold openP
    rw [h.alive, if_neg (by simp), if_neg (by omega), hfo]
    dsimp only
    have := H.ep0
    rw [if_neg (by omega), hh]
  have hfit : growP 0 0 (allP s rs).length d.room = true := by
    unfold growP
    simp
    refine ⟨hr0, ?_⟩
    have : (allP s rs).length ≤ 113 * d.room := Nat.le_trans hlen.1 hsl
    omega
  obtain ⟨e2, d1, ho⟩ := lay_main (H.zero (by omega)) hK h.alive (fun i _ => h.loose _) s rs hfit
  have he : (layP hf ep sl d s rs).e = 0 := by
    rcases ho.out with ⟨_, h2, _⟩ | ⟨_, _, _, _, _, ⟨_, h2, _⟩ | ⟨h1, _⟩⟩
    · rw [h.unb] at h2; cases h2
    · rw [h.unb] at h2; cases h2
    · exact h1
  have hd := lay_done (H.zero (by omega)) hK s rs hlen.2.1 hlen.2.2 ho he
  have hL : openLg d = ⟨1 - hf, (layP hf ep sl d s rs).ep, 1 - sl, (layP hf ep sl d s rs).pg, [], (layP hf ep sl d s rs).d, s, rs, rs.length⟩ := by
    unfold openLg
    rw [hop, hfo, hh]
    rfl
  rw [hL, hop]
  exact ⟨he, hd.1, by rw [hd.2.1]; exact h.unb, hd.2.2, rfl, rfl, rfl⟩
end Go.Proofs.Ytjfpanamkkdebaa
namespace Go.Proofs.Ytjfpanamkkdebaa
open Go.RowKit
set_option linter.unusedVariables false
set_option linter.unusedSimpArgs false
theorem Dsk.cur_of {d d2 : Dsk} {i : Nat} (hk : d2.kept = d.kept) (hl : d2.loose i = d.loose i) : d2.cur i = d.cur i := by unfold Dsk.cur Dsk.now; rw [hl, hk]
theorem lay_crash {K : Nat} {d : Dsk} {hf ep sl : Nat} {R : Laid} {e2 : Nat} {d1 : Dsk} (H : Dev K d hf ep sl) (hK : K + 1 < 256) (hd : d.dead = false) (snap : List UInt8) (recs : List (List UInt8)) (hs : snap.length ≤ 262144) (hr : ∀ r ∈ recs, r.length ≤ 262144)
    (h : LayOut (K + 1) d hf ep sl (allP snap recs) R e2 d1) (F : List (List UInt8) → Prop)
    (hold : ∀ d', Dev (K + 1) d' hf ep sl → d'.kept = d.kept → (∀ i, i < d.room → d'.loose (d.place hf i) = d.loose (d.place hf i)) → ∀ keep torn cut, F (d'.crashed keep torn cut).hasP) (hcur : F d.hasP) (keep : List Int) (torn cut : Int) :
    ∃ hf' ep' sl', Clean (K + 1) (R.d.crashed keep torn cut) hf' ep' sl' ∧ (F (R.d.crashed keep torn cut).hasP ∨ (R.d.crashed keep torn cut).hasP = snap :: recs) ∧ (R.e = 0 → (R.d.crashed keep torn cut).hasP = snap :: recs) := by
  have hf1 := H.hf1
  have hsl1 := H.sl1
  have hN := H.n8
  have hss : 1 - (1 - sl) = sl := by omega
  have offs : ∀ s, s ≤ 1 → d1.loose s = d.loose s := fun s hs => h.off _ (fun i _ => place_slot d (1 - hf) i s hs)
  have offh : ∀ i, i < d.room → d1.loose (d.place hf i) = d.loose (d.place hf i) := fun i hi => h.off _ (fun j hj => place_half d hf i j hf1 hi hj)
  have curs : d1.cur sl = d.kpt sl := by rw [Dsk.cur_none (by rw [offs sl hsl1]; exact H.slot.1), Dsk.kpt_kept h.kept]
  have curo : d1.cur (1 - sl) = d.kpt (1 - sl) := by rw [Dsk.cur_none (by rw [offs _ (by omega)]; exact H.other.1), Dsk.kpt_kept h.kept]
  have curh : ∀ i, i < d.room → d1.cur (d.place hf i) = d.cur (d.place hf i) := fun i hi => Dsk.cur_of h.kept (offh i hi)
  have hee := h.ee
  by_cases he : R.e = 0
  · have hdn := lay_done (H.zero (by omega)) hK snap recs hs hr h he
    have hc := hdn.1.dev.crash keep torn cut
    obtain ⟨q, C, k1, k2, k3⟩ := hdn.1.half
    dsimp only at k1 k2 k3 hc
    obtain ⟨k, j1, j2, j3⟩ := crash_half hdn.1.dev (by omega) k1 snap recs recs.length (by rw [k2]; exact List.prefix_refl _) (by rw [k3]; exact List.prefix_refl _) (Nat.le_refl _) hs hr keep torn cut
    dsimp only at j3
    rw [show k = recs.length by omega, List.take_length] at j3
    exact ⟨_, _, _, hc, .inr j3, fun _ => j3⟩
  · rcases h.out with ⟨_, _, a1, a2⟩ | ⟨pg', C', bs', k1, k2, ⟨_, _, b1, b2⟩ | ⟨h1, _⟩⟩
    · have hk : R.d.kept = d.kept := a1.trans h.kept
      have hD : Dev (K + 1) R.d hf ep sl := ⟨h.ok, by rw [h.len]; exact H.n8, hf1, hsl1, H.ep0, by have := H.epK; omega, h.pg, ⟨by rw [a2, offs sl hsl1]; exact H.slot.1, by rw [Dsk.kpt_kept hk]; exact H.slot.2⟩, ⟨by rw [a2, offs _ (by omega)]; exact H.other.1, by rw [Dsk.kpt_kept hk]; exact H.other.2⟩⟩
      exact ⟨hf, ep, sl, hD.crash keep torn cut, .inl (hold R.d hD hk (fun i hi => by rw [a2]; exact offh i hi) keep torn cut), fun e => absurd e he⟩
    · -- all was synced; perhaps the new slot was written
      have hlo : ∀ i, i ≠ 1 - sl → R.d.loose i = none := fun i hi => by
        rcases b2 with b2 | ⟨st, _, b2⟩
        · rw [b2]
        · rw [b2]; simp [hi]
      obtain ⟨dc, hdc⟩ : ∃ dc, R.d.crashed keep torn cut = dc := ⟨_, rfl⟩
      have hlen : dc.kept.length = d.kept.length := by rw [← hdc, crash_len, h.len]
      have hroomc : dc.room = d.room := by unfold Dsk.room; rw [hlen]
      have hplc : ∀ f i, dc.place f i = d.place f i := fun f i => by unfold Dsk.place; rw [hroomc]
      have hcc : ∀ i, i < d.kept.length → i ≠ 1 - sl → dc.cur i = d1.cur i := fun i hi hne => by
        rw [← hdc, crash_kept h.pg keep torn cut i (by rw [h.len]; exact hi) (hlo i hne), b1 i hi]
      have hdd : dc.dead = false := by rw [← hdc]; rfl
      have hdb : dc.bound = false := by rw [← hdc]; rfl
      have hdl : ∀ i, dc.loose i = none := fun i => by rw [← hdc]; rfl
      have hpgc : PgOk (K + 1) dc := by rw [← hdc]; exact crash_pg h.pg keep torn cut
      have hokc : dc.Ok := by rw [← hdc]; exact h.ok.crashed keep torn cut
      have hkc : ∀ i, dc.kpt i = dc.cur i := fun i => (Dsk.cur_none (hdl i)).symm
      rw [hdc]
      have hne1 : sl ≠ 1 - sl := by omega
      have hslk : dc.kpt sl = d.kpt sl := by rw [hkc, hcc sl (by omega) hne1, curs]
      have hcur2 : ∀ i, i < d.room → dc.cur (d.place hf i) = d.cur (d.place hf i) := fun i hi => by
        rw [hcc _ (d.place_lt hf i H.n8 hf1 hi) (Ne.symm (place_slot d hf i _ (by omega))), curh i hi]
      have old : ((lookP (dc.kpt (1 - sl))).whole = true → (lookP (dc.kpt (1 - sl))).epoch < ep) → ∃ hf' ep' sl', Clean (K + 1) dc hf' ep' sl' ∧ (F dc.hasP ∨ dc.hasP = snap :: recs) ∧ (R.e = 0 → dc.hasP = snap :: recs) := by
        intro hw
        have hD : Dev (K + 1) dc hf ep sl := ⟨hokc, by rw [hlen]; exact H.n8, hf1, hsl1, H.ep0, by have := H.epK; omega, hpgc, ⟨hdl _, by rw [hslk]; exact H.slot.2⟩, ⟨hdl _, hw⟩⟩
        refine ⟨hf, ep, sl, ⟨hD, hdl, hdd, hdb⟩, .inl ?_, fun e => absurd e he⟩
        have e1 := hD.found (by omega) hdd
        have e2 := H.found (by omega) hd
        rw [dc.hasP_eq hf ep sl e1, hroomc, stream_congr hd hdd H.n8 hlen hf1 hcur2 d.room 0 (by omega)]
        rw [d.hasP_eq hf ep sl e2] at hcur
        exact hcur
      have hslot := crash_page R.d h.pg keep torn cut (1 - sl) (by rw [h.len]; omega)
      rw [hdc] at hslot
      rcases hslot.2 with e | ⟨s, hs1, e | e⟩
      · refine old ?_
        rw [hkc, e, b1 _ (by omega), curo]
        exact H.other.2
      · rcases b2 with b2 | ⟨st, hst, b2⟩
        · rw [b2] at hs1; cases hs1
        · rw [b2] at hs1
          simp only [if_true] at hs1
          injection hs1 with hs1
          have hD : Dev (K + 1) dc (1 - hf) e2 (1 - sl) := by
            refine ⟨hokc, by rw [hlen]; exact H.n8, by omega, by omega, by omega, hee.2, hpgc, ⟨hdl _, st, hst, by rw [hkc, e, hs1]⟩, ⟨hdl _, ?_⟩⟩
            rw [hss, hslk]
            intro _
            obtain ⟨_, s0, s1, s2⟩ := H.slot
            have := H.epK
            rw [s2, look_fold (by simp) H.ep0 (by omega) (by decide) s1]
            exact hee.1
          have hr1 : d1.room = d.room := Dsk.room_kept h.kept
          have hp1 : ∀ f i, d1.place f i = d.place f i := fun f i => Dsk.place_kept h.kept f i
          have hS := k1.synced (d2 := dc) (by omega) (by rw [h.kept]; exact H.n8) (by rw [hlen, h.kept]) (fun i hi => by
            rw [hr1] at hi
            rw [hp1, hkc]
            exact hcc _ (d.place_lt _ i H.n8 (by omega) hi) (Ne.symm (place_slot d _ i _ (by omega)))) (fun i hi => hdl _)
          have hn := now_half hD (by omega) hdd hS snap recs (by rw [List.append_nil, allD_flat, k2]) hs hr
          exact ⟨_, _, _, ⟨hD, hdl, hdd, hdb⟩, .inr hn, fun _ => hn⟩
      · refine old (fun hw => ?_)
        rw [hkc, e] at hw
        cases hw
    · exact absurd h1 he
/-- What a log's pages may have behind a crash: the snapshot, and the first records, all sure ones among them. -/
def Had (snap : List UInt8) (recs : List (List UInt8)) (su : Nat) (l : List (List UInt8)) : Prop := ∃ k, su ≤ k ∧ k ≤ recs.length ∧ l = snap :: recs.take k
theorem LInv.had {K : Nat} {L : Lg} (h : LInv K L) (hK : K < 256) (keep : List Int) (torn cut : Int) : Clean K (L.d.crashed keep torn cut) L.hf L.ep L.sl ∧ Had L.snap L.recs L.su (L.d.crashed keep torn cut).hasP := by
  obtain ⟨q, C, k1, k2, k3⟩ := h.half
  exact ⟨h.dev.crash keep torn cut, crash_half h.dev hK k1 L.snap L.recs L.su (by rw [k2]; exact List.prefix_refl _) (by rw [k3]; exact List.prefix_refl _) h.su h.snapl h.recl keep torn cut⟩
theorem LInv.now {K : Nat} {L : Lg} (h : LInv K L) (hK : K < 256) : L.d.hasP = L.snap :: L.recs := by
  obtain ⟨q, C, k1, k2, k3⟩ := h.half
  exact now_half h.dev hK h.alive k1 L.snap L.recs k2 h.snapl h.recl
theorem LInv.few {K : Nat} {L : Lg} (h : LInv K L) : L.recs.length ≤ 1000000 ∧ L.bs.length < 113 ∧ L.pg ≤ L.d.room ∧ (allP L.snap L.recs).length ≤ 113 * L.d.room := by
  obtain ⟨q, C, k1, k2, k3⟩ := h.half
  have h1 := allP_len L.snap L.recs
  have h2 := k1.allLe
  have h3 : (allD C L.bs).flatten.length ≤ 113 * (allD C L.bs).length := by
    have key : ∀ (D : List (List UInt8)), (∀ c ∈ D, c.length ≤ 113) → D.flatten.length ≤ 113 * D.length := by
      intro D
      induction D with
      | nil => intro _; simp
      | cons c D ih =>
        intro hc
        have := ih (fun x hx => hc x (List.mem_cons_of_mem _ hx))
        have := hc c List.mem_cons_self
        rw [List.flatten_cons, List.length_append, List.length_cons]
        omega
    exact key _ h2.2.2
  rw [allD_flat, k2] at h3
  have hm := L.d.room_le h.dev.ok.most
  have h4 : 113 * (allD C L.bs).length ≤ 113 * L.d.room := Nat.mul_le_mul_left _ h2.1
  refine ⟨by omega, k1.bsl, by rcases k1.fit with h | h <;> omega, by omega⟩
theorem LInv.fit {K : Nat} {L : Lg} (h : LInv K L) (hK : K < 256) : L.Fit :=
  ⟨h.dev.hf1, h.dev.sl1, by have := h.dev.epK; omega, h.dev.n8, h.few.1, fun _ => ⟨h.few.2.1, h.few.2.2.1⟩⟩
/-- The synced pages are one and the same. -/
theorem half_sync_eq {d d2 : Dsk} {hf ep q pg pg2 : Nat} {C C2 : List (List UInt8)} {bs bs2 : List UInt8} (h : Half d hf ep q pg C bs) (h2 : Half d2 hf ep q pg2 C2 bs2) (hk : d2.kept = d.kept) (h0 : 0 < ep) (h1 : ep < 4294967296) (hm : d.room ≤ 2047) : C.take q = C2.take q := by
  have hq := h.qpg
  have hq2 := h2.qpg
  have hl := h.len
  have hl2 := h2.len
  have hfit : pg ≤ d.room := by rcases h.fit with h | h <;> omega
  apply List.ext_getElem?
  intro i
  rw [List.getElem?_take, List.getElem?_take]
  split
  · rename_i hi
    obtain ⟨_, st, s1, s2⟩ := h.sync i hi
    obtain ⟨_, st2, s3, s4⟩ := h2.sync i hi
    rw [Dsk.kpt_kept hk, Dsk.place_kept hk, s2] at s4
    have c1 : (C.getD i []).length ≤ 113 := by
      rw [List.getD_eq_getElem?_getD, List.getElem?_eq_getElem (show i < C.length by omega)]; exact h.chunk _ (List.getElem_mem _)
    have c2 : (C2.getD i []).length ≤ 113 := by
      rw [List.getD_eq_getElem?_getD, List.getElem?_eq_getElem (show i < C2.length by omega)]; exact h2.chunk _ (List.getElem_mem _)
    have e := congrArg (fun a => (lookP a).bytes) s4
    simp only [look_fold c1 h0 h1 (show i < 65536 by omega) s1, look_fold c2 h0 h1 (show i < 65536 by omega) s3] at e
    rw [List.getD_eq_getElem?_getD, List.getD_eq_getElem?_getD, List.getElem?_eq_getElem (show i < C.length by omega), List.getElem?_eq_getElem (show i < C2.length by omega)] at e
    rw [List.getElem?_eq_getElem (show i < C.length by omega), List.getElem?_eq_getElem (show i < C2.length by omega)]
    simpa using e
  · rfl
theorem allP_snoc (snap : List UInt8) (recs : List (List UInt8)) (b : List UInt8) : allP snap (recs ++ [b]) = allP snap recs ++ framedP b := by simp [allP]
end Go.Proofs.Ytjfpanamkkdebaa
namespace Go.Proofs.Ytjfpanamkkdebaa
open Go.RowKit
set_option linter.unusedVariables false
set_option linter.unusedSimpArgs false
theorem Dev.congr {K : Nat} {d d2 : Dsk} {hf ep sl : Nat} (h : Dev K d hf ep sl) (ho : d2.Ok) (hk : d2.kept = d.kept) (hl : d2.loose = d.loose) : Dev K d2 hf ep sl :=
  ⟨ho, by rw [hk]; exact h.n8, h.hf1, h.sl1, h.ep0, h.epK, h.pg.congr hk hl, ⟨by rw [hl]; exact h.slot.1, by rw [Dsk.kpt_kept hk]; exact h.slot.2⟩, ⟨by rw [hl]; exact h.other.1, by rw [Dsk.kpt_kept hk]; exact h.other.2⟩⟩
theorem Dev.mono {K K' : Nat} {d : Dsk} {hf ep sl : Nat} (h : Dev K d hf ep sl) (hk : K ≤ K') : Dev K' d hf ep sl :=
  ⟨h.ok, h.n8, h.hf1, h.sl1, h.ep0, Nat.le_trans h.epK hk, h.pg.mono hk, h.slot, h.other⟩
theorem LInv.mono {K K' : Nat} {L : Lg} (h : LInv K L) (hk : K ≤ K') : LInv K' L := ⟨h.dev.mono hk, h.alive, h.half, h.su, h.oth, h.snapl, h.recl⟩
theorem Clean.mono {K K' : Nat} {d : Dsk} {hf ep sl : Nat} (h : Clean K d hf ep sl) (hk : K ≤ K') : Clean K' d hf ep sl := ⟨h.dev.mono hk, h.loose, h.alive, h.unb⟩
theorem LInv.congr {K : Nat} {L : Lg} {d2 : Dsk} (h : LInv K L) (ho : d2.Ok) (hk : d2.kept = L.d.kept) (hl : d2.loose = L.d.loose) (hd : d2.dead = false) : LInv K { L with d := d2 } := by
  obtain ⟨q, C, k1, k2, k3⟩ := h.half
  have hr := Dsk.room_kept hk
  exact ⟨h.dev.congr ho hk hl, hd, ⟨q, C, k1.congr hk (fun i _ => by rw [hl]), k2, k3⟩, h.su, fun i hi => by dsimp only at hi ⊢; rw [hl, Dsk.place_kept hk]; rw [hr] at hi; exact h.oth i hi, h.snapl, h.recl⟩
theorem LInv.fused {K : Nat} {L : Lg} (h : LInv K L) (n : Int) (hn : n ≤ 9223372036854775807) : LInv K { L with d := L.d.fused n } ∧ L.d.fuseE = 0 := by
  have hf : L.d.fused n = { L.d with bound := decide (0 ≤ n), left := n.toNat } := by unfold Dsk.fused; rw [if_neg (by rw [h.alive]; decide)]
  refine ⟨h.congr (h.dev.ok.fused hn) (by rw [hf]) (by rw [hf]) (by rw [hf]; exact h.alive), ?_⟩
  unfold Dsk.fuseE
  rw [h.alive]
  rfl
theorem append_bad {L : Lg} (hd : L.d.dead = false) {b : List UInt8} (hb : b.length = 0 ∨ 262144 < b.length) : appendP L b = (0, 1, L) := by
  unfold appendP
  rw [hd, if_neg (by simp), if_pos hb]
theorem append_full {L : Lg} (hd : L.d.dead = false) {b : List UInt8} (hb : ¬ (b.length = 0 ∨ 262144 < b.length)) (hg : growP L.pg L.bs.length (framedP b).length L.d.room = false) : appendP L b = (0, 8, L) := by
  unfold appendP
  rw [hd, if_neg (by simp), if_neg hb, if_pos hg]
theorem append_step {K : Nat} {L : Lg} (h : LInv K L) (hK : K + 1 < 256) (b : List UInt8) (hb : ¬ (b.length = 0 ∨ 262144 < b.length)) (hg : growP L.pg L.bs.length (framedP b).length L.d.room = true) :
    (((appendP L b).2.1 = 0 ∧ (appendP L b).1 = L.recs.length + 1 ∧ LInv (K + 1) (appendP L b).2.2 ∧ (appendP L b).2.2.recs = L.recs ++ [b] ∧ (appendP L b).2.2.snap = L.snap ∧ (appendP L b).2.2.su = L.su) ∨ ((appendP L b).2.1 ≠ 0 ∧ L.d.bound = true)) ∧
    (appendP L b).2.2.d.bound = L.d.bound ∧ (appendP L b).2.2.d.kept.length = L.d.kept.length ∧
    ∀ keep torn cut, Clean (K + 1) ((appendP L b).2.2.d.crashed keep torn cut) L.hf L.ep L.sl ∧ Had L.snap (L.recs ++ [b]) L.su ((appendP L b).2.2.d.crashed keep torn cut).hasP := by
  obtain ⟨q, C, k1, k2, k3⟩ := h.half
  have H := h.dev
  have hep := H.epK
  have hm := L.d.room_le H.ok.most
  have hN := H.n8
  have hfit : L.pg * 113 + L.bs.length + (framedP b).length ≤ L.d.room * 113 := by
    have := k1.bsl
    unfold growP at hg
    simp at hg
    omega
  have hP := pour_half L.hf L.ep q H.hf1 (framedP b).length L.d L.pg C L.bs (framedP b) (Nat.le_refl _) H.n8 h.alive k1 hfit
  have hP2 := pour_pg (K := K + 1) hK L.hf L.ep H.hf1 (by omega) (framedP b).length L.d L.pg L.bs (framedP b) (Nat.le_refl _) H.n8 h.alive H.ok (H.pg.mono (by omega)) k1.bsl hfit (fun i _ _ => by have := (H.pg.cur (L.d.place L.hf i)).1.tlK; omega)
  have hap : appendP L b = (let p := pourP L.hf L.ep (framedP b).length L.d L.pg L.bs (framedP b)
      if p.e ≠ 0 then (0, p.e, { L with d := p.d, pg := p.pg, bs := p.bs })
      else (L.recs.length + 1, 0, { L with d := p.d, pg := p.pg, bs := p.bs, recs := L.recs ++ [b] })) := by
    unfold appendP
    rw [h.alive, if_neg (by simp), if_neg hb, hg, if_neg (by simp)]
  rw [hap]
  dsimp only
  obtain ⟨P, hPe⟩ : ∃ P, pourP L.hf L.ep (framedP b).length L.d L.pg L.bs (framedP b) = P := ⟨_, rfl⟩
  rw [hPe] at hP hP2 ⊢
  obtain ⟨d1, pp, pbs, pe⟩ := P
  dsimp only at hP hP2 ⊢
  obtain ⟨pg', C', bs', j1, j2, j3, j4⟩ := hP.half
  rw [k2, ← allP_snoc] at j2
  have offs : ∀ s, s ≤ 1 → d1.loose s = L.d.loose s := fun s hs => hP.off _ (fun i _ => place_slot L.d L.hf i s hs)
  have hsl := H.sl1
  have hD : Dev (K + 1) d1 L.hf L.ep L.sl := ⟨hP2.1, by rw [hP.kept]; exact H.n8, H.hf1, H.sl1, H.ep0, by omega, hP2.2, ⟨by rw [offs _ hsl]; exact H.slot.1, by rw [Dsk.kpt_kept hP.kept]; exact H.slot.2⟩, ⟨by rw [offs _ (by omega)]; exact H.other.1, by rw [Dsk.kpt_kept hP.kept]; exact H.other.2⟩⟩
  have hsu := h.su
  have hrl : ∀ r ∈ L.recs ++ [b], r.length ≤ 262144 := by
    intro r hr
    rcases List.mem_append.1 hr with hr | hr
    · exact h.recl r hr
    · rw [List.mem_singleton.1 hr]; omega
  have htk : C'.take q = C.take q := (half_sync_eq k1 j1 hP.kept H.ep0 (by omega) hm).symm
  have hst : (L.recs ++ [b]).take L.su = L.recs.take L.su := by rw [List.take_append_of_le_length hsu]
  have hq3 : (C'.take q).flatten = allP L.snap ((L.recs ++ [b]).take L.su) := by rw [htk, k3, hst]
  have hcr : ∀ keep torn cut, Clean (K + 1) (d1.crashed keep torn cut) L.hf L.ep L.sl ∧ Had L.snap (L.recs ++ [b]) L.su (d1.crashed keep torn cut).hasP := fun keep torn cut =>
    ⟨hD.crash keep torn cut, crash_half hD hK j1 L.snap (L.recs ++ [b]) L.su j2 (by rw [hq3]; exact List.prefix_refl _) (by simp; omega) h.snapl hrl keep torn cut⟩
  by_cases hpe : pe = 0
  · subst hpe
    obtain ⟨rfl, rfl, j5⟩ := j4 rfl
    rw [k2, ← allP_snoc] at j5
    rw [if_neg (by simp)]
    refine ⟨.inl ⟨rfl, rfl, ⟨hD, hP.ok rfl, ⟨q, C', j1, j5, hq3⟩, by dsimp only; rw [List.length_append]; omega, fun i hi => ?_, h.snapl, hrl⟩, rfl, rfl, rfl⟩, hP.bound, by dsimp only; rw [hP.kept], hcr⟩
    dsimp only at hi ⊢
    rw [Dsk.room_kept hP.kept] at hi
    rw [Dsk.place_kept hP.kept, hP.off _ (fun j hj e => place_half L.d L.hf j i H.hf1 hj hi e.symm)]
    exact h.oth i hi
  · rw [if_pos hpe]
    exact ⟨.inr ⟨hpe, (hP.bad hpe).2⟩, hP.bound, by dsimp only; rw [hP.kept], hcr⟩
theorem sync_step {K : Nat} {L : Lg} (h : LInv K L) (hK : K < 256) :
    (((syncP L).1 = 0 ∧ LInv K (syncP L).2 ∧ (syncP L).2.recs = L.recs ∧ (syncP L).2.snap = L.snap ∧ (syncP L).2.su = L.recs.length ∧ (syncP L).2.pg = (if 0 < L.bs.length then L.pg + 1 else L.pg) ∧ (syncP L).2.bs = []) ∨
     ((syncP L).1 ≠ 0 ∧ L.d.bound = true ∧ ∀ keep torn cut, Clean K ((syncP L).2.d.crashed keep torn cut) L.hf L.ep L.sl ∧ Had L.snap L.recs L.su ((syncP L).2.d.crashed keep torn cut).hasP)) ∧
    (syncP L).2.d.bound = L.d.bound ∧ (syncP L).2.d.kept.length = L.d.kept.length := by
  obtain ⟨q, C, k1, k2, k3⟩ := h.half
  have H := h.dev
  have hsc := synced_cases L.d h.alive
  have hok := H.ok.synced
  have hpg := synced_pg H.pg h.alive
  have hsy : syncP L = if L.d.actE ≠ 0 then (L.d.actE, { L with d := L.d.synced }) else (0, { L with d := L.d.synced, su := L.recs.length, pg := if 0 < L.bs.length then L.pg + 1 else L.pg, bs := [] }) := by
    unfold syncP
    rw [h.alive, if_neg (by simp)]
  rw [hsy]
  obtain ⟨s1, s2, ⟨b1, b2, b3, b4, b5⟩ | ⟨a1, a2, a3, a4⟩⟩ := hsc
  · rw [if_pos (by rw [b2]; decide), b2]
    refine ⟨.inr ⟨(by show (9 : Nat) ≠ 0; decide), b1, fun keep torn cut => ?_⟩, s1, s2⟩
    have hD := H.congr hok b3 b4
    exact ⟨hD.crash keep torn cut, crash_half hD hK (k1.congr b3 (fun i _ => by rw [b4])) L.snap L.recs L.su (by rw [k2]; exact List.prefix_refl _) (by rw [k3]; exact List.prefix_refl _) h.su h.snapl h.recl keep torn cut⟩
  · rw [if_neg (by omega)]
    have hr : L.d.synced.room = L.d.room := by unfold Dsk.room; rw [s2]
    have hS := k1.synced (d2 := L.d.synced) H.hf1 H.n8 s2 (fun i hi => a3 _ (L.d.place_lt _ i H.n8 H.hf1 hi)) (fun i hi => by rw [a4])
    have hpgl : (if 0 < L.bs.length then L.pg + 1 else L.pg) = (allD C L.bs).length := by rw [allD_len, k1.len]
    have hsl := H.sl1
    have hn := H.n8
    refine ⟨.inl ⟨rfl, ⟨⟨hok, by dsimp only; rw [s2]; exact H.n8, H.hf1, H.sl1, H.ep0, H.epK, hpg, ⟨by dsimp only; rw [a4], ?_⟩, ⟨by dsimp only; rw [a4], ?_⟩⟩, a2, ⟨(allD C L.bs).length, allD C L.bs, by dsimp only; rw [hpgl]; exact hS, by dsimp only; rw [List.append_nil, allD_flat, k2], by dsimp only; rw [List.take_length, allD_flat, k2, List.take_length]⟩, Nat.le_refl _, fun i _ => by dsimp only; rw [a4], h.snapl, h.recl⟩, rfl, rfl, rfl, rfl, rfl⟩, s1, s2⟩
    · dsimp only
      rw [a3 _ (by omega), Dsk.cur_none H.slot.1]
      exact H.slot.2
    · dsimp only
      rw [a3 _ (by omega), Dsk.cur_none H.other.1]
      exact H.other.2
/-- What may be behind a crash, while another half is written. -/
theorem LInv.hold {K : Nat} {L : Lg} (h : LInv K L) (hK : K + 1 < 256) : ∀ d', Dev (K + 1) d' L.hf L.ep L.sl → d'.kept = L.d.kept → (∀ i, i < L.d.room → d'.loose (L.d.place L.hf i) = L.d.loose (L.d.place L.hf i)) → ∀ keep torn cut, Had L.snap L.recs L.su (d'.crashed keep torn cut).hasP := by
  intro d' hD hk hl keep torn cut
  obtain ⟨q, C, k1, k2, k3⟩ := h.half
  exact crash_half hD hK (k1.congr hk hl) L.snap L.recs L.su (by rw [k2]; exact List.prefix_refl _) (by rw [k3]; exact List.prefix_refl _) h.su h.snapl h.recl keep torn cut
theorem LInv.hadNow {K : Nat} {L : Lg} (h : LInv K L) (hK : K < 256) : Had L.snap L.recs L.su L.d.hasP := ⟨L.recs.length, h.su, Nat.le_refl _, by rw [h.now hK, List.take_length]⟩
theorem save_full {L : Lg} (hd : L.d.dead = false) {s : List UInt8} (hs : s.length ≤ 262144) (hg : growP 0 0 (allP s []).length L.d.room = false) : saveP L s = (8, L) := by
  have hl : layP L.hf L.ep L.sl L.d s [] = ⟨8, L.d, 0, 0⟩ := by unfold layP; rw [if_pos hg]
  unfold saveP
  rw [hd, if_neg (by simp), if_neg (by omega), hl]
  rfl
theorem save_step {K : Nat} {L : Lg} (h : LInv K L) (hK : K + 1 < 256) (s : List UInt8) (hs : s.length ≤ 262144) (hg : growP 0 0 (allP s []).length L.d.room = true) :
    (((saveP L s).1 = 0 ∧ LInv (K + 1) (saveP L s).2 ∧ (saveP L s).2.snap = s ∧ (saveP L s).2.recs = [] ∧ (saveP L s).2.su = 0) ∨ ((saveP L s).1 ≠ 0 ∧ L.d.bound = true)) ∧ ((saveP L s).1 = 0 → (saveP L s).2.d.bound = L.d.bound ∧ (saveP L s).2.d.kept.length = L.d.kept.length) ∧
    ∀ keep torn cut, ∃ hf' ep' sl', Clean (K + 1) ((saveP L s).2.d.crashed keep torn cut) hf' ep' sl' ∧ (Had L.snap L.recs L.su ((saveP L s).2.d.crashed keep torn cut).hasP ∨ ((saveP L s).2.d.crashed keep torn cut).hasP = [s]) ∧ ((saveP L s).1 = 0 → ((saveP L s).2.d.crashed keep torn cut).hasP = [s]) := by
  obtain ⟨e2, d1, ho⟩ := lay_main (h.dev.zero (by omega)) hK h.alive h.oth s [] hg
  have hcr := lay_crash h.dev hK h.alive s [] hs (by simp) ho (Had L.snap L.recs L.su) (h.hold hK) (h.hadNow (by omega))
  have hsv : saveP L s = if (layP L.hf L.ep L.sl L.d s []).e ≠ 0 then ((layP L.hf L.ep L.sl L.d s []).e, { L with d := (layP L.hf L.ep L.sl L.d s []).d }) else (0, ⟨1 - L.hf, (layP L.hf L.ep L.sl L.d s []).ep, 1 - L.sl, (layP L.hf L.ep L.sl L.d s []).pg, [], (layP L.hf L.ep L.sl L.d s []).d, s, [], 0⟩) := by
    unfold saveP
    rw [h.alive, if_neg (by simp), if_neg (by omega)]
  rw [hsv]
  by_cases he : (layP L.hf L.ep L.sl L.d s []).e = 0
  · rw [if_neg (by omega)]
    have hd := lay_done (h.dev.zero (by omega)) hK s [] hs (by simp) ho he
    refine ⟨.inl ⟨rfl, hd.1, rfl, rfl, rfl⟩, fun _ => ⟨hd.2.1, ho.len⟩, fun keep torn cut => ?_⟩
    obtain ⟨a, b, c, r1, r2, r3⟩ := hcr keep torn cut
    exact ⟨a, b, c, r1, r2, fun _ => r3 he⟩
  · rw [if_pos he]
    have hbd : L.d.bound = true := by
      rcases ho.out with ⟨_, h2, _⟩ | ⟨_, _, _, _, _, ⟨_, h2, _⟩ | ⟨h1, _⟩⟩
      · exact h2
      · exact h2
      · exact absurd h1 he
    refine ⟨.inr ⟨he, hbd⟩, fun e => absurd e he, fun keep torn cut => ?_⟩
    obtain ⟨a, b, c, r1, r2, r3⟩ := hcr keep torn cut
    exact ⟨a, b, c, r1, r2, fun e => absurd e he⟩
/-- Opening lays what is there. -/
theorem open_lay {K : Nat} {d : Dsk} {hf ep sl : Nat} (H : Dev K d hf ep sl) (hK : K + 1 < 256) (hd : d.dead = false) (ho : ∀ i, i < d.room → d.loose (d.place (1 - hf) i) = none) (s : List UInt8) (rs : List (List UInt8)) (hh : d.hasP = s :: rs) :
    openP d = layP hf ep sl d s rs ∧ s.length ≤ 262144 ∧ (∀ r ∈ rs, r.length ≤ 262144) ∧ ∃ e2 d1, LayOut (K + 1) d hf ep sl (allP s rs) (layP hf ep sl d s rs) e2 d1 := by
  have hfo := H.found (by omega) hd
  have hlen := d.hasP_len s rs hh
  rw [hfo] at hlen
  dsimp only at hlen
  have hsl := d.stream_le hf ep d.room 0
  have hN := H.n8
  have hr0 : 0 < d.room := by unfold Dsk.room; omega
  have hop : openP d = layP hf ep sl d s rs := by
    unfold openP
    rw [hd, if_neg (by simp), if_neg (by omega), hfo]
    dsimp only
    have := H.ep0
    rw [if_neg (by omega), hh]
  have hfit : growP 0 0 (allP s rs).length d.room = true := by
    unfold growP
    simp
    refine ⟨hr0, ?_⟩
    have : (allP s rs).length ≤ 113 * d.room := Nat.le_trans hlen.1 hsl
    omega
  exact ⟨hop, hlen.2.1, hlen.2.2, lay_main (H.zero (by omega)) hK hd ho s rs hfit⟩
/-- A log's device opened: what is there then, and behind a crash. -/
theorem open_step {K : Nat} {L : Lg} (h : LInv K L) (hK : K + 1 < 256) :
    (((openP L.d).e = 0 ∧ LInv (K + 1) (openLg L.d) ∧ (openLg L.d).snap = L.snap ∧ (openLg L.d).recs = L.recs ∧ (openLg L.d).su = L.recs.length ∧ (openLg L.d).d.bound = L.d.bound ∧ (openLg L.d).d.kept.length = L.d.kept.length) ∨ ((openP L.d).e ≠ 0 ∧ L.d.bound = true)) ∧
    ∀ keep torn cut, ∃ hf' ep' sl', Clean (K + 1) ((openP L.d).d.crashed keep torn cut) hf' ep' sl' ∧ Had L.snap L.recs L.su ((openP L.d).d.crashed keep torn cut).hasP := by
  have hh := h.now (by omega)
  obtain ⟨hop, hs, hr, e2, d1, ho⟩ := open_lay h.dev hK h.alive h.oth L.snap L.recs hh
  have hfo := h.dev.found (by omega) h.alive
  have hcr := lay_crash h.dev hK h.alive L.snap L.recs hs hr ho (Had L.snap L.recs L.su) (h.hold hK) (h.hadNow (by omega))
  have hL : openLg L.d = ⟨1 - L.hf, (layP L.hf L.ep L.sl L.d L.snap L.recs).ep, 1 - L.sl, (layP L.hf L.ep L.sl L.d L.snap L.recs).pg, [], (layP L.hf L.ep L.sl L.d L.snap L.recs).d, L.snap, L.recs, L.recs.length⟩ := by
    unfold openLg
    rw [hop, hfo, hh]
    rfl
  constructor
  · rw [hL, hop]
    by_cases he : (layP L.hf L.ep L.sl L.d L.snap L.recs).e = 0
    · have hd := lay_done (h.dev.zero (by omega)) hK L.snap L.recs hs hr ho he
      exact .inl ⟨he, hd.1, rfl, rfl, rfl, hd.2.1, ho.len⟩
    · right
      refine ⟨he, ?_⟩
      rcases ho.out with ⟨_, h2, _⟩ | ⟨_, _, _, _, _, ⟨_, h2, _⟩ | ⟨h1, _⟩⟩
      · exact h2
      · exact h2
      · exact absurd h1 he
  · intro keep torn cut
    rw [hop]
    obtain ⟨a, b, c, r1, r2, r3⟩ := hcr keep torn cut
    refine ⟨a, b, c, r1, ?_⟩
    rcases r2 with r2 | r2
    · exact r2
    · exact ⟨L.recs.length, h.su, Nat.le_refl _, by rw [r2, List.take_length]⟩
/-- A device behind a crash, opened with the power going somewhere, and crashed again: it has what it had. -/
theorem open_again {K : Nat} {d : Dsk} {hf ep sl : Nat} (h : Clean K d hf ep sl) (hK : K + 1 < 256) (n : Int) (hn : n ≤ 9223372036854775807) (s : List UInt8) (rs : List (List UInt8)) (hh : d.hasP = s :: rs) (keep : List Int) (torn cut : Int) :
    ∃ hf' ep' sl', Clean (K + 1) ((openP (d.fused n)).d.crashed keep torn cut) hf' ep' sl' ∧ ((openP (d.fused n)).d.crashed keep torn cut).hasP = s :: rs := by
  have hfz : d.fused n = { d with bound := decide (0 ≤ n), left := n.toNat } := by unfold Dsk.fused; rw [if_neg (by rw [h.alive]; decide)]
  obtain ⟨d2, hd2⟩ : ∃ d2, d.fused n = d2 := ⟨_, rfl⟩
  have hk : d2.kept = d.kept := by rw [← hd2, hfz]
  have hl : d2.loose = d.loose := by rw [← hd2, hfz]
  have hal : d2.dead = false := by rw [← hd2, hfz]; exact h.alive
  have hok : d2.Ok := by rw [← hd2]; exact h.dev.ok.fused hn
  rw [hd2]
  have H := h.dev.congr hok hk hl
  have hfo := H.found (by omega) hal
  have hfo0 := h.dev.found (by omega) h.alive
  have hn8 := H.n8
  have same : ∀ d' : Dsk, d'.dead = false → d'.kept.length = d2.kept.length → d'.foundS 2 = ⟨hf, ep, sl⟩ → (∀ i, i < d2.room → d'.cur (d2.place hf i) = d2.cur (d2.place hf i)) → d'.hasP = d2.hasP := by
    intro d' h1 h2 h3 h4
    have hr : d'.room = d2.room := by unfold Dsk.room; rw [h2]
    rw [d'.hasP_eq hf ep sl h3, d2.hasP_eq hf ep sl hfo, hr, stream_congr hal h1 hn8 h2 H.hf1 h4 d2.room 0 (by omega)]
  have hh2 : d2.hasP = s :: rs := by
    rw [← same d h.alive (by rw [hk]) hfo0 (fun i hi => (Dsk.cur_of hk (by rw [hl])).symm)]
    exact hh
  have hlo2 : ∀ i, d2.loose i = none := fun i => by rw [hl]; exact h.loose i
  obtain ⟨hop, hs, hr, e2, d1, ho⟩ := open_lay H hK hal (fun i _ => hlo2 _) s rs hh2
  rw [hop]
  obtain ⟨a, b, c, r1, r2, _⟩ := lay_crash H hK hal s rs hs hr ho (fun l => l = s :: rs) (fun d' hD' hk' hl' keep torn cut => by
    have hc := hD'.crash keep torn cut
    rw [same _ hc.alive (by rw [crash_len, hk']) (hc.dev.found (by omega) hc.alive) (fun i hi => ?_), hh2]
    have hlo' : d'.loose (d2.place hf i) = none := by rw [hl' i hi]; exact hlo2 _
    rw [crash_kept hD'.pg keep torn cut _ (by rw [hk']; exact d2.place_lt hf i hn8 H.hf1 hi) hlo', Dsk.kpt_kept hk', Dsk.cur_none (hlo2 _)]) hh2 keep torn cut
  exact ⟨a, b, c, r1, r2.elim id id⟩
end Go.Proofs.Ytjfpanamkkdebaa
namespace Go.Proofs.Ytjfpanamkkdebaa
open Go.RowKit
set_option linter.unusedVariables false
set_option linter.unusedSimpArgs false
theorem pour_count (hf ep : Nat) : ∀ (f : Nat) (d : Dsk) (pg : Nat) (bs b : List UInt8), b.length ≤ f → bs.length < 113 → (pourP hf ep f d pg bs b).e = 0 →
    (pourP hf ep f d pg bs b).pg * 113 + (pourP hf ep f d pg bs b).bs.length = pg * 113 + bs.length + b.length ∧ (pourP hf ep f d pg bs b).bs.length < 113
  | 0, d, pg, bs, b, hb, hl, _ => by unfold pourP; dsimp only; omega
  | f + 1, d, pg, bs, b, hb, hl, he => by
    by_cases hb0 : b.length = 0
    · rw [pourP_nil _ _ _ _ _ _ _ hb0]; dsimp only; omega
    · obtain ⟨n, hn⟩ : ∃ n, min b.length (113 - bs.length) = n := ⟨_, rfl⟩
      obtain ⟨b2, hb2⟩ : ∃ b2, bs ++ b.take n = b2 := ⟨_, rfl⟩
      have hb2l : b2.length = bs.length + n := by rw [← hb2, List.length_append, List.length_take]; omega
      have hdl : (b.drop n).length = b.length - n := List.length_drop
      unfold pourP at he ⊢
      rw [if_neg hb0, hn] at he ⊢
      dsimp only at he ⊢
      rw [hb2] at he ⊢
      by_cases h2 : d.putE (d.place hf pg : Nat) ep pg b2 ≠ 0
      · rw [if_pos h2] at he
        exact absurd he h2
      · rw [if_neg h2] at he ⊢
        by_cases h3 : b2.length = 113
        · rw [if_pos h3] at he ⊢
          have ih := pour_count hf ep f _ (pg + 1) [] (b.drop n) (by omega) (by decide) he
          simp only [List.length_nil] at ih
          omega
        · rw [if_neg h3] at he ⊢
          have ih := pour_count hf ep f _ pg b2 (b.drop n) (by omega) (by omega) he
          omega
theorem lay_pg (hf ep sl : Nat) (d : Dsk) (snap : List UInt8) (recs : List (List UInt8)) (h : (layP hf ep sl d snap recs).e = 0) :
    (layP hf ep sl d snap recs).pg = (allP snap recs).length / 113 + (if 0 < (allP snap recs).length % 113 then 1 else 0) := by
  unfold layP at h ⊢
  dsimp only at h ⊢
  split at h
  · cases h
  · rename_i h1
    rw [if_neg h1]
    split at h
    · rename_i h2; exact absurd h h2
    · rename_i h2
      rw [if_neg h2]
      split at h
      · rename_i h3; exact absurd h h3
      · rename_i h3
        rw [if_neg h3]
        split at h
        · rename_i h4; exact absurd h h4
        · rename_i h4
          rw [if_neg h4]
          split at h
          · rename_i h5; exact absurd h h5
          · rename_i h5
            rw [if_neg h5]
            split at h
            · rename_i h6; exact absurd h h6
            · rename_i h6
              rw [if_neg h6]
              have hc := pour_count (1 - hf) (d.topE (1 - hf) d.room ep + 1) (allP snap recs).length d 0 [] (allP snap recs) (Nat.le_refl _) (by decide) (by omega)
              simp only [List.length_nil] at hc
              dsimp only
              generalize (pourP (1 - hf) (d.topE (1 - hf) d.room ep + 1) (allP snap recs).length d 0 [] (allP snap recs)).pg = p at hc ⊢
              generalize (pourP (1 - hf) (d.topE (1 - hf) d.room ep + 1) (allP snap recs).length d 0 [] (allP snap recs)).bs.length = q at hc ⊢
              have e1 : (allP snap recs).length / 113 = p := by omega
              have e2 : (allP snap recs).length % 113 = q := by omega
              rw [e1, e2]
              split <;> omega
theorem append_pg {L : Lg} {b : List UInt8} (hl : L.bs.length < 113) (hd : L.d.dead = false) (hb : ¬ (b.length = 0 ∨ 262144 < b.length)) (hg : growP L.pg L.bs.length (framedP b).length L.d.room = true) (he : (appendP L b).2.1 = 0) :
    (appendP L b).2.2.pg = L.pg + (L.bs.length + (framedP b).length) / 113 ∧ (appendP L b).2.2.bs.length = (L.bs.length + (framedP b).length) % 113 := by
  unfold appendP at he ⊢
  rw [hd, if_neg (by simp), if_neg hb, hg, if_neg (by simp)] at he ⊢
  dsimp only at he ⊢
  split at he
  · rename_i h1; exact absurd he h1
  · rename_i h1
    rw [if_neg h1]
    have hc := pour_count L.hf L.ep (framedP b).length L.d L.pg L.bs (framedP b) (Nat.le_refl _) hl (by omega)
    dsimp only
    generalize (pourP L.hf L.ep (framedP b).length L.d L.pg L.bs (framedP b)).pg = p at hc ⊢
    generalize (pourP L.hf L.ep (framedP b).length L.d L.pg L.bs (framedP b)).bs.length = q at hc ⊢
    omega
/-- The document's log. -/
structure RL where
  snap : List UInt8
  recs : List (List UInt8)
  sure : Nat
  pages : Nat
  page : Nat
  fill : Nat
def RL.turned (x : RL) : RL := if 0 < x.fill then { x with page := x.page + 1, fill := 0 } else x
def RL.lay (x : RL) (s : List UInt8) (rs : List (List UInt8)) : Nat × RL :=
  if 113 * x.pages < (allP s rs).length then (8, x) else (0, RL.turned { x with snap := s, recs := rs, sure := rs.length, page := (allP s rs).length / 113, fill := (allP s rs).length % 113 })
def RL.app (x : RL) (b : List UInt8) : Nat × Nat × RL :=
  if b.length = 0 ∨ 262144 < b.length then (0, 1, x)
  else if ((x.pages : Int) - x.page) * 113 - x.fill < (framedP b).length then (0, 8, x)
  else (x.recs.length + 1, 0, { x with page := x.page + (x.fill + (framedP b).length) / 113, fill := (x.fill + (framedP b).length) % 113, recs := x.recs ++ [b] })
def RL.sync (x : RL) : RL := RL.turned { x with sure := x.recs.length }
def RL.save (x : RL) (s : List UInt8) : Nat × RL := if 262144 < s.length then (1, x) else x.lay s []
def RL.open (x : RL) : Nat × RL := x.lay x.snap x.recs
structure Rel (L : Lg) (x : RL) : Prop where
  snap : x.snap = L.snap
  recs : x.recs = L.recs
  sure : x.sure = L.su
  pages : x.pages = L.d.room
  page : x.page = L.pg
  fill : x.fill = L.bs.length
theorem LInv.roomPos {K : Nat} {L : Lg} (h : LInv K L) : 0 < L.d.room ∧ L.d.room ≤ 2047 := by
  have := h.dev.n8
  exact ⟨by unfold Dsk.room; omega, L.d.room_le h.dev.ok.most⟩
theorem grow_zero (n room : Nat) (hr : 0 < room) : growP 0 0 n room = decide (n ≤ 113 * room) := by
  unfold growP
  by_cases h : n ≤ 113 * room
  · rw [decide_eq_true h]; simp; omega
  · rw [decide_eq_false h]; simp; intro _; omega
theorem grow_more {pg len n room : Nat} (h1 : pg < room ∨ (pg = room ∧ len = 0)) (h2 : len < 113) (h3 : 0 < n) : growP pg len n room = !decide (((room : Int) - pg) * 113 - len < n) := by
  unfold growP
  rcases h1 with h1 | ⟨rfl, rfl⟩
  · by_cases h : n ≤ 113 - len + (room - pg - 1) * 113
    · rw [decide_eq_true h, decide_eq_true h1, decide_eq_false (by omega)]; rfl
    · rw [decide_eq_false h, decide_eq_true h1, decide_eq_true (by omega)]; rfl
  · rw [decide_eq_false (Nat.lt_irrefl _), Bool.false_and, show decide (((pg : Int) - (pg : Int)) * 113 - ((0 : Nat) : Int) < (n : Int)) = true from decide_eq_true (by rw [Int.sub_self]; omega)]; rfl
theorem room_len {d d2 : Dsk} (h : d2.kept.length = d.kept.length) : d2.room = d.room := by unfold Dsk.room; rw [h]
theorem play_append {K : Nat} {L : Lg} {x : RL} (h : LInv K L) (hK : K + 1 < 256) (hb : L.d.bound = false) (hr : Rel L x) (b : List UInt8) :
    (appendP L b).1 = (x.app b).1 ∧ (appendP L b).2.1 = (x.app b).2.1 ∧ Rel (appendP L b).2.2 (x.app b).2.2 ∧ LInv (K + 1) (appendP L b).2.2 ∧ (appendP L b).2.2.d.bound = false ∧ (appendP L b).2.2.d.kept.length = L.d.kept.length := by
  unfold RL.app
  by_cases hbb : b.length = 0 ∨ 262144 < b.length
  · rw [append_bad h.alive hbb, if_pos hbb]
    exact ⟨rfl, rfl, hr, h.mono (by omega), hb, rfl⟩
  · obtain ⟨q, C, k1, k2, k3⟩ := h.half
    have hfp : 0 < (framedP b).length := by rw [framedP_length]; omega
    have hgr := grow_more (n := (framedP b).length) (show L.pg < L.d.room ∨ (L.pg = L.d.room ∧ L.bs.length = 0) from k1.fit.imp id (fun h => ⟨h.1, by rw [h.2]; rfl⟩)) k1.bsl hfp
    rw [if_neg hbb, hr.pages, hr.page, hr.fill]
    by_cases hg : ((L.d.room : Int) - L.pg) * 113 - L.bs.length < (framedP b).length
    · rw [if_pos hg]
      rw [decide_eq_true hg] at hgr
      rw [append_full h.alive hbb hgr]
      exact ⟨rfl, rfl, hr, h.mono (by omega), hb, rfl⟩
    · rw [if_neg hg]
      rw [decide_eq_false hg] at hgr
      obtain ⟨⟨e0, e1, e2, e3, e4, e5⟩ | ⟨_, e⟩, e6, e7, _⟩ := append_step h hK b hbb hgr
      · have hpg := append_pg k1.bsl h.alive hbb hgr e0
        refine ⟨by rw [e1, hr.recs], e0, ⟨by rw [e4]; exact hr.snap, by rw [e3, hr.recs], by rw [e5]; exact hr.sure, ?_, by rw [hpg.1], by rw [hpg.2]⟩, e2, by rw [e6]; exact hb, e7⟩
        rw [room_len e7]
      · rw [hb] at e; cases e
theorem play_sync {K : Nat} {L : Lg} {x : RL} (h : LInv K L) (hK : K < 256) (hb : L.d.bound = false) (hr : Rel L x) :
    (syncP L).1 = 0 ∧ Rel (syncP L).2 x.sync ∧ LInv K (syncP L).2 ∧ (syncP L).2.d.bound = false ∧ (syncP L).2.d.kept.length = L.d.kept.length := by
  obtain ⟨⟨e0, e1, e2, e3, e4, e5, e6⟩ | ⟨_, e, _⟩, e7, e8⟩ := sync_step h hK
  · refine ⟨e0, ?_, e1, by rw [e7]; exact hb, e8⟩
    unfold RL.sync RL.turned
    dsimp only
    rw [hr.fill]
    have hrm := room_len e8
    by_cases hp : 0 < L.bs.length
    · rw [if_pos hp]
      rw [if_pos hp] at e5
      exact ⟨by rw [e3]; exact hr.snap, by rw [e2]; exact hr.recs, by rw [e4]; dsimp only; rw [hr.recs], by rw [hrm]; exact hr.pages, by rw [e5]; dsimp only; rw [hr.page], by rw [e6]; rfl⟩
    · rw [if_neg hp]
      rw [if_neg hp] at e5
      exact ⟨by rw [e3]; exact hr.snap, by rw [e2]; exact hr.recs, by rw [e4]; dsimp only; rw [hr.recs], by rw [hrm]; exact hr.pages, by rw [e5]; exact hr.page, by rw [e6, List.length_nil]; show L.bs.length = 0; omega⟩
  · rw [hb] at e; cases e
theorem turned_at (n : Nat) (x : RL) : RL.turned { x with page := n / 113, fill := n % 113 } = { x with page := n / 113 + (if 0 < n % 113 then 1 else 0), fill := 0 } := by
  unfold RL.turned
  dsimp only
  split
  · rfl
  · rename_i h
    have : n % 113 = 0 := by omega
    rw [this, Nat.add_zero]
theorem play_save {K : Nat} {L : Lg} {x : RL} (h : LInv K L) (hK : K + 1 < 256) (hb : L.d.bound = false) (hr : Rel L x) (s : List UInt8) :
    (saveP L s).1 = (x.save s).1 ∧ Rel (saveP L s).2 (x.save s).2 ∧ LInv (K + 1) (saveP L s).2 ∧ (saveP L s).2.d.bound = false ∧ (saveP L s).2.d.kept.length = L.d.kept.length := by
  unfold RL.save RL.lay
  by_cases hs : 262144 < s.length
  · rw [if_pos hs]
    have : saveP L s = (1, L) := by unfold saveP; rw [h.alive, if_neg (by simp), if_pos hs]
    rw [this]
    exact ⟨rfl, hr, h.mono (by omega), hb, rfl⟩
  · rw [if_neg hs, hr.pages]
    have hg0 := grow_zero (allP s []).length L.d.room h.roomPos.1
    by_cases hg : 113 * L.d.room < (allP s []).length
    · rw [if_pos hg]
      rw [decide_eq_false (by omega)] at hg0
      rw [save_full h.alive (by omega) hg0]
      exact ⟨rfl, hr, h.mono (by omega), hb, rfl⟩
    · rw [if_neg hg]
      rw [decide_eq_true (by omega)] at hg0
      obtain ⟨⟨e0, e1, e2, e3, e4⟩ | ⟨_, e⟩, e5, _⟩ := save_step h hK s (by omega) hg0
      · obtain ⟨e6, e7⟩ := e5 e0
        have hsv : (saveP L s).2.pg = (layP L.hf L.ep L.sl L.d s []).pg ∧ (saveP L s).2.bs = [] ∧ (layP L.hf L.ep L.sl L.d s []).e = 0 := by
          have hx : saveP L s = if (layP L.hf L.ep L.sl L.d s []).e ≠ 0 then ((layP L.hf L.ep L.sl L.d s []).e, { L with d := (layP L.hf L.ep L.sl L.d s []).d }) else (0, ⟨1 - L.hf, (layP L.hf L.ep L.sl L.d s []).ep, 1 - L.sl, (layP L.hf L.ep L.sl L.d s []).pg, [], (layP L.hf L.ep L.sl L.d s []).d, s, [], 0⟩) := by
            unfold saveP
            rw [h.alive, if_neg (by simp), if_neg (by omega)]
          rw [hx] at e0 ⊢
          by_cases he : (layP L.hf L.ep L.sl L.d s []).e = 0
          · rw [if_neg (by omega)]; exact ⟨rfl, rfl, he⟩
          · rw [if_pos he] at e0; exact absurd e0 he
        have hpg := lay_pg L.hf L.ep L.sl L.d s [] hsv.2.2
        have ht := turned_at (allP s []).length { x with snap := s, recs := [], sure := ([] : List (List UInt8)).length, pages := L.d.room }
        dsimp only at ht ⊢
        rw [ht]
        exact ⟨e0, ⟨e2.symm, e3.symm, by rw [e4]; rfl, by rw [room_len e7], by rw [hsv.1, hpg], by rw [hsv.2.1]; rfl⟩, e1, by rw [e6]; exact hb, e7⟩
      · rw [hb] at e; cases e
theorem play_open {K : Nat} {L : Lg} {x : RL} (h : LInv K L) (hK : K + 1 < 256) (hb : L.d.bound = false) (hr : Rel L x) :
    (openP L.d).e = 0 ∧ x.open.1 = 0 ∧ Rel (openLg L.d) x.open.2 ∧ LInv (K + 1) (openLg L.d) ∧ (openLg L.d).d.bound = false ∧ (openLg L.d).d.kept.length = L.d.kept.length := by
  have hfew := h.few.2.2.2
  unfold RL.open RL.lay
  rw [hr.pages, hr.snap, hr.recs, if_neg (by omega)]
  obtain ⟨⟨e0, e1, e2, e3, e4, e6, e7⟩ | ⟨_, e⟩, _⟩ := open_step h hK
  · have hh := h.now (by omega)
    obtain ⟨hop, _, _, _⟩ := open_lay h.dev hK h.alive h.oth L.snap L.recs hh
    have hpg := lay_pg L.hf L.ep L.sl L.d L.snap L.recs (by rw [← hop]; exact e0)
    have hp2 : (openLg L.d).pg = (layP L.hf L.ep L.sl L.d L.snap L.recs).pg := by unfold openLg; rw [hop]
    have ht := turned_at (allP L.snap L.recs).length { x with snap := L.snap, recs := L.recs, sure := L.recs.length, pages := L.d.room }
    dsimp only at ht ⊢
    rw [ht]
    exact ⟨e0, rfl, ⟨e2.symm, e3.symm, e4.symm, by rw [room_len e7], by rw [hp2, hpg], rfl⟩, e1, by rw [e6]; exact hb, e7⟩
  · rw [hb] at e; cases e
end Go.Proofs.Ytjfpanamkkdebaa
