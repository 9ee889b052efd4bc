/- A number's bytes, read and written in place: the walks of number and digits.
   A page put together: plain, and the walk of fold. -/
import Derived.Test.YtjfpanamkkdebaaMaC
import Derived.Test.YtjfpanamkkdebaaMaD
import Derived.Test.YtjfpanamkkdebaaMaP
import Derived.Test.YtjfpanamkkdebaaMaE
import Derived.Laws.CopyRow
import Derived.Laws.IdiomCopy
import Derived.Deep.Cut
import Derived.Deep.RegionLaw
namespace Go.Proofs.Ytjfpanamkkdebaa
open Go.RowKit
set_option linter.unusedVariables false
set_option linter.unusedSimpArgs false
theorem or_u32 (x b : Nat) (hb : b < 256) (hx : x < 16777216) : Go.bits .or .u32 ((x : Int) * 256) (b : Int) = ((x * 256 + b : Nat) : Int) := by
  have h := u32_or_nat (x * 256) b (by omega) (by omega)
  rw [fr_or_byte x b hb] at h
  exact h
set_option maxHeartbeats 1600000 in
theorem number_any (A : Option Addr) (c : Nat) (l : List UInt8) (w : World) (hr : RB w A l) (hl : l.length ≤ 4) :
    Calls Try.prog 78 #[.slice A l.length c] w fun e w' => e = .returned (.int .u32 (acc 0 l)) ∧ w = w' := by
  have HR := Lib.hid hr
  clear hr
  go_enter Try.func78, Try.ntmps78
  go_wp2_with fail
  go_loopg [3, 8] l.length (fun r s3 s8 wr => ∃ j : Nat, j + r = l.length ∧ s8 = .int .i64 j ∧ s3 = .int .u32 (acc 0 (l.take j)) ∧ w = wr)
  case atStart => exact ⟨0, by omega, rfl, rfl, rfl⟩
  case round =>
    obtain ⟨j, hj, rfl, rfl, rfl⟩ := hrel
    by_cases hjl : j < l.length
    · obtain ⟨a, rfl, hc⟩ := (HR.out).at (k := j) (by simpa using hjl)
      have ht : acc 0 (l.take (j + 1)) = acc 0 (l.take j) * 256 + l[j].toNat := by rw [List.take_succ_eq_append_getElem hjl, acc_snoc]
      have hlt := acc_lt (l.take j) 0
      rw [List.length_take, show min j l.length = j by omega, Nat.zero_add, Nat.one_mul] at hlt
      have hp : 256 ^ j ≤ 256 ^ 3 := Nat.pow_le_pow_right (by decide) (by omega)
      have hx : acc 0 (l.take j) < 16777216 := by have : (256 : Nat) ^ 3 = 16777216 := by decide
                                                  omega
      generalize l[j] = b at hc ht
      have hb : b.toNat < 256 := b.toNat_lt
      have HT := Lib.hid ht
      generalize acc 0 (l.take j) = x at hx HT
      have hj1 : decide ((j : Int) < (l.length : Int)) = true := decide_eq_true (by omega)
      have hj2 : (j : Int) < (l.length : Int) := by omega
      clear ht hp hlt
      go_wp2_with fail
      go_roundg (l.length - (j + 1))
      case measure => omega
      case rel => exact ⟨j + 1, by omega, by go_num, by rw [HT.out, or_u32 x b.toNat hb hx], rfl⟩
    · obtain rfl : j = l.length := by omega
      rw [List.take_length]
      have hj1 : decide ((l.length : Int) < (l.length : Int)) = false := decide_eq_false (by omega)
      go_wp2_with fail
      go_returns
      exact ⟨rfl, rfl⟩
/-- A row of bytes, whole. -/
def RowAt (w : World) (g : Nat) (bs : List UInt8) : Prop := w.heap[g]? = some (.cells (bs.map vb).toArray 5 (0, 0))
theorem shr_int (x k : Nat) : (x : Int) / 2 ^ (8 * k) = ((x / 256 ^ k : Nat) : Int) := by
  rw [show (256 : Nat) ^ k = 2 ^ (8 * k) by rw [Nat.pow_mul]]
  norm_cast
theorem row_set (bs T : List UInt8) (o j : Nat) {y : UInt8} (h : o + j < bs.length) (hj : j < T.length) (hy : T[j] = y) :
    (bs.take o ++ (T.take j ++ bs.drop (o + j))).set (o + j) y = bs.take o ++ (T.take (j + 1) ++ bs.drop (o + (j + 1))) := by
  have e1 : bs.drop (o + j) = bs[o + j] :: bs.drop (o + (j + 1)) := List.drop_eq_getElem_cons h
  have e2 : T.take (j + 1) = T.take j ++ [y] := by rw [List.take_succ_eq_append_getElem hj, hy]
  have l1 : (bs.take o).length = o := by rw [List.length_take]; omega
  have l2 : (T.take j).length = j := by rw [List.length_take]; omega
  rw [e1, e2, List.set_append, if_neg (by omega), l1, List.set_append, if_neg (by omega), l2, show o + j - o - j = 0 by omega, List.set_cons_zero, List.append_assoc]
  rfl
set_option maxHeartbeats 1600000 in
theorem digits_any (g o n c x : Nat) (bs : List UInt8) (w : World) (h : RowAt w g bs) (ho : o + n ≤ bs.length) (hn : n ≤ 4) (hx : x < 4294967296) :
    Calls Try.prog 84 #[.slice (some ⟨g, o, none⟩) n c, .int .u32 x] w fun e w' => e = .returned (.tuple #[]) ∧ RowAt w' g (bs.take o ++ (tailBytes x n ++ bs.drop (o + n))) ∧ w.grownBy w' (some g) := by
  have hlt := blk_lt h
  have HR := Lib.hid h
  clear h
  go_enter Try.func84, Try.ntmps84
  go_wp2_with fail
  go_loopg [7] n (fun r s7 wr => ∃ j : Nat, j + r = n ∧ s7 = .int .i64 j ∧ RowAt wr g (bs.take o ++ ((tailBytes x n).take j ++ bs.drop (o + j))) ∧ w.grownBy wr (some g))
  case atStart => exact ⟨0, by omega, rfl, by have := HR.out; simpa using this, World.grownBy.refl _ _⟩
  case round =>
    obtain ⟨j, hj, rfl, hr, hg⟩ := hrel
    by_cases hjl : j < n
    · have hj1 : decide ((j : Int) < (n : Int)) = true := decide_eq_true (by omega)
      have hj2 : (j : Int) < (n : Int) := by omega
      have hcell : ∃ v, wr.cell? ⟨g, o + j, none⟩ = some v := by
        unfold RowAt at hr
        rw [blk_cell hr]
        exact ⟨_, Array.getElem?_eq_getElem (by simp [tailBytes_length]; omega)⟩
      obtain ⟨v, hv⟩ := hcell
      have hf : wr.frozen? ⟨g, o + j, none⟩ = false := blk_free hr
      go_wp2_with fail
      have hT : (tailBytes x n)[j]'(by rw [tailBytes_length]; exact hjl) = UInt8.ofNat (x / 256 ^ (n - 1 - j)) := tailBytes_at x n j hjl
      have hv2 : Value.int .u8 ((x : Int) / 2 ^ (8 * (n - 1 - j)) % 256) = vb (UInt8.ofNat (x / 256 ^ (n - 1 - j))) := by
        rw [vb_ofNat, shr_int x (n - 1 - j)]
      have hset := heap_setCell_same wr g (o + j) _ _ (Value.int .u8 ((x : Int) / 2 ^ (8 * (n - 1 - j)) % 256)) hr
      have hgS := Lib.grownBy_setCell wr g (o + j) (Value.int .u8 ((x : Int) / 2 ^ (8 * (n - 1 - j)) % 256))
      have hnew : RowAt (wr.setCell ⟨g, o + j, none⟩ (Value.int .u8 ((x : Int) / 2 ^ (8 * (n - 1 - j)) % 256))) g (bs.take o ++ ((tailBytes x n).take (j + 1) ++ bs.drop (o + (j + 1)))) := by
        unfold RowAt
        rw [hset, hv2, List.setIfInBounds_toArray, ← List.map_set]
        congr 4
        exact row_set bs (tailBytes x n) o j (by omega) (by rw [tailBytes_length]; exact hjl) hT
      have HN := Lib.hid hnew
      have HG := Lib.hid (Lib.grownBy_trans hg hgS)
      clear hset hnew hv2 hT
      go_roundg (n - (j + 1))
      case measure => omega
      case rel => exact ⟨j + 1, by omega, by go_num, HN.out, HG.out⟩
    · obtain rfl : j = n := by omega
      have ht : (tailBytes x j).take j = tailBytes x j := List.take_of_length_le (by rw [tailBytes_length]; exact Nat.le_refl _)
      rw [ht] at hr
      clear ht
      have hj1 : decide ((j : Int) < (j : Int)) = false := decide_eq_false (by omega)
      go_wp2_with fail
      refine bodyPost_end (results_none rfl _ _ _) rfl ?_
      exact ⟨rfl, hr, hg⟩
end Go.Proofs.Ytjfpanamkkdebaa
namespace Go.Proofs.Ytjfpanamkkdebaa
open Go.RowKit
set_option linter.unusedVariables false
set_option linter.unusedSimpArgs false
def Z (n : Nat) : List UInt8 := List.replicate n 0
theorem Z_length (n : Nat) : (Z n).length = n := by simp [Z]
/-- A page, with a stamp. -/
def foldP (ep ix : Nat) (bs : List UInt8) (st : Nat) : List UInt8 :=
  tailBytes st 4 ++ (tailBytes ep 4 ++ (tailBytes ix 2 ++ (UInt8.ofNat bs.length :: (bs ++ (Z (113 - bs.length) ++ tailBytes st 4)))))
theorem foldP_length {ep ix st : Nat} {bs : List UInt8} (h : bs.length ≤ 113) : (foldP ep ix bs st).length = 128 := by
  simp [foldP, tailBytes_length, Z_length]
  omega
theorem splice (p T : List UInt8) (m : Nat) (h : T.length ≤ m) : (p ++ Z m).take p.length ++ (T ++ (p ++ Z m).drop (p.length + T.length)) = (p ++ T) ++ Z (m - T.length) := by
  have e1 : (p ++ Z m).take p.length = p := by simp
  have e2 : (p ++ Z m).drop (p.length + T.length) = Z (m - T.length) := by
    rw [← List.drop_drop, List.drop_left]
    unfold Z
    rw [List.drop_replicate]
  rw [e1, e2, List.append_assoc]
theorem RowAt.of_own {w : World} {base g n c : Nat} {bs : List UInt8} (h : OB w base (.slice (some ⟨g, 0, none⟩) n c) bs) (hn : n = bs.length) (hc : c = n) : RowAt w g bs := by
  unfold OB at h
  rcases h.2 with ⟨e, _⟩ | ⟨g', cap, cur, e, hb, hg, hx, _, hs, ht⟩
  · injection e with e; cases e
  · injection e with e1 _ e3
    injection e1 with e1
    injection e1 with e1
    subst e1; subst e3
    unfold RowAt
    rw [hg]
    congr 2
    have hl : cur.toList.length = bs.length := by rw [Array.length_toList]; omega
    rw [Nat.mul_one, ← hl, List.take_length] at ht
    rw [← ht]
theorem RowAt.own {w : World} {base g : Nat} {bs : List UInt8} (h : RowAt w g bs) (hb : base ≤ g) (hm : bs.length ≤ 9223372036854775807) : OB w base (.slice (some ⟨g, 0, none⟩) bs.length bs.length) bs := by
  unfold OB
  have hml : maxLen = 9223372036854775807 := rfl
  refine ⟨by simp, .inr ⟨g, bs.length, _, rfl, hb, h, Nat.le_refl _, by omega, by simp, by rw [Nat.mul_one]; exact List.take_of_length_le (by rw [List.length_map]; exact Nat.le_refl _)⟩⟩
theorem digits_next (g o n c x m : Nat) (p : List UInt8) (w : World) (h : RowAt w g (p ++ Z m)) (ho : o = p.length) (hn : n ≤ 4) (hnm : n ≤ m) (hx : x < 4294967296) :
    Calls Try.prog 84 #[.slice (some ⟨g, o, none⟩) n c, .int .u32 x] w fun e w' => e = .returned (.tuple #[]) ∧ RowAt w' g ((p ++ tailBytes x n) ++ Z (m - n)) ∧ w.grownBy w' (some g) := by
  subst ho
  refine (digits_any g p.length n c x _ w h (by rw [List.length_append, Z_length]; omega) hn hx).mono ?_
  rintro e w' ⟨rfl, hr, hg⟩
  have e := splice p (tailBytes x n) m (by rw [tailBytes_length]; exact hnm)
  rw [tailBytes_length] at e
  rw [e] at hr
  exact ⟨rfl, hr, hg⟩
set_option maxRecDepth 100000 in
set_option maxHeartbeats 3200000 in
theorem fold_any (ep ix st : Nat) (A : Option Addr) (c : Nat) (bs : List UInt8) (w : World) (hep : ep < 4294967296) (hix : ix < 4294967296) (hst : st < 4294967296) (hl : bs.length ≤ 113) (hr : RB w A bs) (hA : A = none → c = 0) :
    Calls Try.prog 75 #[.int .i64 ep, .int .i64 ix, .slice A bs.length c, .int .u32 st] w fun e w' => ∃ v, e = .returned v ∧ OB w' w.heap.size v (foldP ep ix bs st) ∧ Below w.heap.size w w' := by
  have HML : Hid (maxLen = 9223372036854775807) := rfl
  have HR := Lib.hid hr
  clear hr
  go_enter Try.func75, Try.ntmps75
  go_wp2_with (at_make; refine wpList_mk _ rfl _ _ 29 rfl w.heap.size 5 _ 1 Try.underlying29 info_u8 rfl _ _ _ _ 128 128 rfl rfl (by rfl) (by rfl) (by omega) (by omega) (by rw [HML.out]; omega) (Nat.le_refl _) ?_; intro w1 hown1 hg1)
  obtain ⟨g, hg⟩ : ∃ g, w.heap.size = g := ⟨_, rfl⟩
  have r1 : RowAt w1 g ([] ++ Z 128) := by
    rw [← hg, List.nil_append]
    refine RowAt.of_own (base := w.heap.size) (n := 128) (c := 128) (OB.mk hown1 (by rw [Z_length]) ?_) (by rw [Z_length]) rfl
    simp [Z, vb]
  have hb1 : Below w.heap.size w w1 := (Below.refl _ _).grown hg1 (Nat.le_refl _) (by intro k hk; cases hk)
  rw [hg] at hown1 ⊢
  have hgw : w.heap.size ≤ g := by omega
  have hw1 : IntKind.u32.wrap (ep : Int) = (ep : Int) := by go_arith
  have hw2 : IntKind.u32.wrap (ix : Int) = (ix : Int) := by go_arith
  clear hg hown1 hg1
  refine (digits_next g 0 4 128 st 128 [] w1 r1 rfl (by decide) (by decide) hst).mono ?_
  rintro e2 w2 ⟨rfl, r2, hg2⟩
  rw [List.nil_append, show 128 - 4 = 124 from rfl] at r2
  have hb2 := hb1.grown hg2 hb1.size (by intro k hk; injection hk with hk; omega)
  clear r1 hb1 hg2
  go_wp2_with fail
  refine (digits_next g 4 4 124 ep 124 _ w2 r2 (by rw [tailBytes_length]) (by decide) (by decide) hep).mono ?_
  rintro e3 w3 ⟨rfl, r3, hg3⟩
  rw [show 124 - 4 = 120 from rfl] at r3
  have hb3 := hb2.grown hg3 hb2.size (by intro k hk; injection hk with hk; omega)
  clear r2 hb2 hg3
  go_wp2_with fail
  refine (digits_next g 8 2 120 ix 120 _ w3 r3 (by rw [List.length_append, tailBytes_length, tailBytes_length]) (by decide) (by decide) hix).mono ?_
  rintro e4 w4 ⟨rfl, r4, hg4⟩
  rw [show 120 - 2 = 118 from rfl] at r4
  have hb4 := hb3.grown hg4 hb3.size (by intro k hk; injection hk with hk; omega)
  clear r3 hb3 hg4
  obtain ⟨p, hp⟩ : ∃ p, tailBytes st 4 ++ tailBytes ep 4 ++ tailBytes ix 2 = p := ⟨_, rfl⟩
  have hpl : p.length = 10 := by rw [← hp]; simp [tailBytes_length]
  rw [hp] at r4
  have r4' : w4.heap[g]? = some (.cells ((p ++ Z 118).map vb).toArray 5 (0, 0)) := r4
  have k10 : w4.cell? ⟨g, 10, none⟩ = some (.int .u8 0) := by
    rw [blk_cell r4', List.getElem?_toArray, List.getElem?_map, List.getElem?_append_right (by omega), hpl]
    rfl
  have f10 : w4.frozen? ⟨g, 10, none⟩ = false := blk_free r4'
  go_upto_region 6 with fail
  obtain ⟨y, hy⟩ : ∃ y, UInt8.ofNat bs.length = y := ⟨_, rfl⟩
  have r5 : RowAt (w4.setCell ⟨g, 10, none⟩ (.int .u8 bs.length)) g ((p ++ [y]) ++ Z 117) := by
    have e := splice p [y] 118 (by simp)
    rw [show [y].length = 1 from rfl, show 118 - 1 = 117 from rfl, hpl] at e
    rw [← e]
    unfold RowAt
    have hv : Value.int .u8 (bs.length : Int) = vb y := by rw [← hy, vb_ofNat]; congr 1; omega
    rw [heap_setCell_same w4 g 10 _ _ _ r4', hv, List.setIfInBounds_toArray, ← List.map_set]
    congr 4
    have e0 := row_set (p ++ Z 118) [y] 10 0 (y := y) (by rw [List.length_append, hpl, Z_length]; decide) (by simp) rfl
    rw [List.take_zero, List.nil_append, Nat.add_zero, List.take_append_drop] at e0
    exact e0
  have hb5 : Below w.heap.size w (w4.setCell ⟨g, 10, none⟩ (.int .u8 bs.length)) := hb4.grown (Lib.grownBy_setCell w4 g 10 _) hb4.size (by intro k hk; injection hk with hk; omega)
  have HFo : Hid (foldP ep ix bs st = ((p ++ [y]) ++ bs ++ Z (113 - bs.length)) ++ tailBytes st 4) := by
    show _ = _
    rw [← hp, ← hy]
    unfold foldP
    simp only [List.append_assoc, List.cons_append, List.nil_append]
  have hpy : (p ++ [y]).length = 11 := by rw [List.length_append, hpl]; rfl
  clear r4 r4' hb4 k10 f10 hp hpl hy
  generalize w4.setCell ⟨g, 10, none⟩ (.int .u8 bs.length) = w5 at *
  generalize p ++ [y] = p5 at *
  have fin : ∀ (w6 : World), RowAt w6 g ((p5 ++ bs) ++ Z (117 - bs.length)) → Below w.heap.size w w6 → RowAt w6 g ((p5 ++ bs ++ Z (113 - bs.length)) ++ Z 4) ∧ Below w.heap.size w w6 := by
    intro w6 h1 h2
    refine ⟨?_, h2⟩
    have e : Z (117 - bs.length) = Z (113 - bs.length) ++ Z 4 := by unfold Z; rw [List.replicate_append_replicate]; congr 1; omega
    rw [e, ← List.append_assoc] at h1
    exact h1
  have FI := Lib.hid fin
  clear fin
  have hl6 : (p5 ++ bs ++ Z (113 - bs.length)).length = 124 := by rw [List.length_append, List.length_append, hpy, Z_length]; omega
  cases A with
  | none =>
    have h0 : bs = [] := by
      cases bs with
      | nil => rfl
      | cons b bs => obtain ⟨a, ha, _⟩ := HR.out.at (k := 0) (by simp); cases ha
    obtain rfl := hA rfl
    subst h0
    have kc := fun (w : World) (ty : TypeId) => run_copy_none (P := Try.prog) w 29 29 ty 5 (some ⟨g, 11, none⟩) none 117 117 0 0 Try.underlying29 (by rfl) (by rfl)
    obtain ⟨r6, hb6⟩ := FI.out w5 (by rw [List.append_nil]; exact r5) hb5
    have HD := Lib.hid (digits_next g 124 4 4 st 4 _ w5 r6 hl6.symm (by decide) (by decide) hst)
    clear r5 hb5 r6
    go_wp2_with (go_at_call 84; refine HD.out.mono ?_; rintro e7 w7 ⟨rfl, r7, hg7⟩)
    go_returns
    have hb7 := hb6.grown hg7 hb6.size (by intro k hk; injection hk with hk; omega)
    rw [Nat.sub_self, show Z 0 = [] from rfl, List.append_nil, ← HFo.out] at r7
    have hfl := foldP_length (ep := ep) (ix := ix) (st := st) (bs := []) hl
    have ho := RowAt.own r7 hgw (by omega)
    rw [hfl] at ho
    exact ⟨_, rfl, ho, hb7⟩
  | some a =>
    have hsrc : ∀ j v, (bs.map vb)[j]? = some v → w5.cell? (a.add j) = some v := by
      intro j v hj
      obtain ⟨a', e, hc⟩ := HR.out j v hj
      cases e
      rw [hb5.cell (World.block_lt_of_cell? _ _ hc)]
      exact hc
    have kc := fun (ty : TypeId) => run_copy_row (P := Try.prog) w5 29 29 ty 5 g 11 117 117 a bs.length c _ 5 (bs.map vb) Try.underlying29 (by rfl) r5 (by rw [List.length_map]; show bs.length = min bs.length 117; omega) hsrc (by simp [hpy, Z_length]; omega) (vbs_one bs)
    have hgS : w5.grownBy (w5.setRow g (List.take 11 (List.map vb (p5 ++ Z 117)).toArray.toList ++ List.map vb bs ++ List.drop (11 + (List.map vb bs).length) (List.map vb (p5 ++ Z 117)).toArray.toList).toArray) (some g) := ⟨rfl, rfl, rfl, by simp, fun k hk hne => setRow_other w5 g k _ (fun e => hne (by rw [e]))⟩
    have r6' : RowAt (w5.setRow g (List.take 11 (List.map vb (p5 ++ Z 117)).toArray.toList ++ List.map vb bs ++ List.drop (11 + (List.map vb bs).length) (List.map vb (p5 ++ Z 117)).toArray.toList).toArray) g ((p5 ++ bs) ++ Z (117 - bs.length)) := by
      unfold RowAt
      rw [setRow_heap w5 g _ _ _ _ r5]
      have e := splice p5 bs 117 (by omega)
      rw [hpy] at e
      rw [← e, List.length_map, ← List.map_take, ← List.map_drop, ← List.map_append, ← List.map_append, List.append_assoc]
    have kc2 := kc 3
    clear kc
    generalize w5.setRow g (List.take 11 (List.map vb (p5 ++ Z 117)).toArray.toList ++ List.map vb bs ++ List.drop (11 + (List.map vb bs).length) (List.map vb (p5 ++ Z 117)).toArray.toList).toArray = w6 at kc2 hgS r6'
    obtain ⟨r6, hb6⟩ := FI.out w6 r6' (hb5.grown hgS hb5.size (by intro k hk; injection hk with hk; omega))
    have HD := Lib.hid (digits_next g 124 4 4 st 4 _ w6 r6 hl6.symm (by decide) (by decide) hst)
    clear r5 hb5 r6 r6' hgS hsrc
    go_wp2_with (go_at_call 84; refine HD.out.mono ?_; rintro e7 w7 ⟨rfl, r7, hg7⟩)
    go_returns
    have hb7 := hb6.grown hg7 hb6.size (by intro k hk; injection hk with hk; omega)
    rw [Nat.sub_self, show Z 0 = [] from rfl, List.append_nil, ← HFo.out] at r7
    have hfl := foldP_length (ep := ep) (ix := ix) (st := st) (bs := bs) hl
    have ho := RowAt.own r7 hgw (by omega)
    rw [hfl] at ho
    exact ⟨_, rfl, ho, hb7⟩
end Go.Proofs.Ytjfpanamkkdebaa
