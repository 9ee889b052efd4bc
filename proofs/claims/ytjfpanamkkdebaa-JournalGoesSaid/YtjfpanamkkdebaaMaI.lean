/- A log laid anew: the walk. -/
import Derived.Test.YtjfpanamkkdebaaMaH
import Derived.Deep.RegionHeld3
namespace Go.Proofs.Ytjfpanamkkdebaa
open Go.RowKit
set_option linter.unusedVariables false
set_option linter.unusedSimpArgs false
theorem cell_alloc {w : World} {a : Addr} {v : Value} {o : Obj} (h : w.cell? a = some v) : (w.alloc o).cell? a = some v := by
  rw [World.cell?_alloc_lt _ _ _ (World.block_lt_of_cell? _ _ h)]; exact h
theorem Only.new {a b : World} {S T : List Nat} (h : Only a b S) (hs : ∀ i ∈ S, i ∈ T ∨ a.heap.size ≤ i) : Only a b T :=
  ⟨h.os, h.tape, h.output, h.size, fun i hi hn => h.block i hi (fun e => (hs i e).elim hn (fun h => by omega))⟩
theorem LgAt.disk {w w' : World} {l hf ep sl pg : Nat} {bs : List UInt8} {g k m c : Nat} {d d2 : Dsk} {sv rv : Value} {su : Nat} (h : LgAt w l hf ep sl pg bs g k m c d sv rv su) (hd : DkAt w' g k m c d2) (ho : Only w w' [g, k, m]) : LgAt w' l hf ep sl pg bs g k m c d2 sv rv su := by
  obtain ⟨bv, hc, hb⟩ := h.cells
  have hnin : l ∉ [g, k, m] := by have := h.lg; have := h.lk; have := h.lm; simp; omega
  exact ⟨⟨bv, ⟨(ho.block l (blk_lt hc.blk) hnin).trans hc.blk⟩, OB.disk hb h.dk ho⟩, hd, h.lg, h.lk, h.lm⟩
theorem LgAt.below {w w' : World} {l hf ep sl pg : Nat} {bs : List UInt8} {g k m c : Nat} {d : Dsk} {sv rv : Value} {su : Nat} (h : LgAt w l hf ep sl pg bs g k m c d sv rv su) (hb : Below w.heap.size w w') : LgAt w' l hf ep sl pg bs g k m c d sv rv su :=
  h.disk (h.dk.below hb) (.of_below hb _)
/-- What holds while a log is laid anew. -/
structure LayS (w W : World) (l x hf ep sl pg : Nat) (bs : List UInt8) (g k m c : Nat) (d : Dsk) (vs rv : Value) (su : Nat) (snap : List UInt8) : Prop where
  only : Only w W [g, k, m]
  lg : LgAt W x hf ep sl pg bs g k m c d vs rv su
  sn : OB W w.heap.size vs snap
  lb : W.heap[l]? = w.heap[l]?
  ll : l < w.heap.size ∧ l ∉ [g, k, m]
theorem LayS.disk {w W W2 : World} {l x hf ep sl pg : Nat} {bs : List UInt8} {g k m c : Nat} {d d2 : Dsk} {vs rv : Value} {su : Nat} {snap : List UInt8} (h : LayS w W l x hf ep sl pg bs g k m c d vs rv su snap) (hd : DkAt W2 g k m c d2) (ho : Only W W2 [g, k, m]) :
    LayS w W2 l x hf ep sl pg bs g k m c d2 vs rv su snap :=
  ⟨h.only.trans ho, h.lg.disk hd ho, OB.disk h.sn h.lg.dk ho, (ho.block l (Nat.lt_of_lt_of_le h.ll.1 h.only.size) h.ll.2).trans h.lb, h.ll⟩
theorem LayS.below {w W W2 : World} {l x hf ep sl pg : Nat} {bs : List UInt8} {g k m c : Nat} {d : Dsk} {vs rv : Value} {su : Nat} {snap : List UInt8} (h : LayS w W l x hf ep sl pg bs g k m c d vs rv su snap) (hb : Below W.heap.size W W2) :
    LayS w W2 l x hf ep sl pg bs g k m c d vs rv su snap := h.disk (h.lg.dk.below hb) (.of_below hb _)
theorem LayS.log {w W W2 : World} {l x hf ep sl pg pg2 : Nat} {bs bs2 : List UInt8} {g k m c : Nat} {d d2 : Dsk} {vs rv : Value} {su : Nat} {snap : List UInt8} (h : LayS w W l x hf ep sl pg bs g k m c d vs rv su snap) (hx : w.heap.size ≤ x) (hd : LgAt W2 x hf ep sl pg2 bs2 g k m c d2 vs rv su) (ho : Only W W2 [x, g, m]) :
    LayS w W2 l x hf ep sl pg2 bs2 g k m c d2 vs rv su snap := by
  have hl := h.ll
  refine ⟨?_, hd, ?_, (ho.block l (Nat.lt_of_lt_of_le hl.1 h.only.size) (by have := hl.2; simp at this ⊢; omega)).trans h.lb, hl⟩
  · refine (Only.trans (h.only.mono (T := [x, g, k, m]) (by simp)) (ho.mono (by simp))).new (by intro i hi; simp at hi ⊢; omega)
  · refine own_only h.sn ho (fun j hj => ?_)
    obtain ⟨cs, hc⟩ := own_blk h.sn j hj
    have h1 := h.lg.dk.apart hc (by decide) (by decide)
    obtain ⟨bv, hl, _⟩ := h.lg.cells
    have h2 := own_apart h.sn hl.blk (by intro cs f e; cases e) j hj
    simp at h1 ⊢
    omega
theorem pourP_pg (hf ep : Nat) : ∀ (f : Nat) (d : Dsk) (pg : Nat) (bs b : List UInt8), bs.length < 113 → (pourP hf ep f d pg bs b).pg * 113 + (pourP hf ep f d pg bs b).bs.length ≤ pg * 113 + bs.length + b.length
  | 0, d, pg, bs, b, _ => by unfold pourP; dsimp only; omega
  | f + 1, d, pg, bs, b, h => by
    unfold pourP
    split
    · dsimp only; omega
    · have h1 : (bs ++ b.take (min b.length (113 - bs.length))).length = bs.length + min b.length (113 - bs.length) := by rw [List.length_append, List.length_take]; omega
      have h2 : (b.drop (min b.length (113 - bs.length))).length = b.length - min b.length (113 - bs.length) := List.length_drop
      dsimp only
      split
      · dsimp only; omega
      · split
        · have := pourP_pg hf ep f (d.put (d.place hf pg : Nat) ep pg (bs ++ b.take (min b.length (113 - bs.length)))) (pg + 1) [] (b.drop (min b.length (113 - bs.length))) (by decide)
          simp only [List.length_nil] at this
          omega
        · have := pourP_pg hf ep f (d.put (d.place hf pg : Nat) ep pg (bs ++ b.take (min b.length (113 - bs.length)))) pg (bs ++ b.take (min b.length (113 - bs.length))) (b.drop (min b.length (113 - bs.length))) (by omega)
          omega
def allT (snap : List UInt8) (rs : List RSl) (j : Nat) : List UInt8 := framedP snap ++ ((rs.take j).map RSl.bs).flatMap framedP
theorem allT_zero (snap : List UInt8) (rs : List RSl) : allT snap rs 0 = framedP snap := by simp [allT]
theorem allT_succ (snap : List UInt8) (rs : List RSl) (j : Nat) (h : j < rs.length) : allT snap rs (j + 1) = allT snap rs j ++ framedP rs[j].bs := by
  unfold allT
  rw [List.take_succ_eq_append_getElem h, List.map_append, List.flatMap_append, List.append_assoc]
  simp
theorem allP_len (snap : List UInt8) (recs : List (List UInt8)) : recs.length ≤ (allP snap recs).length := by
  unfold allP
  rw [List.length_append]
  have : recs.length ≤ (recs.flatMap framedP).length := by
    induction recs with
    | nil => simp
    | cons b recs ih =>
      rw [List.flatMap_cons, List.length_append, framedP_length, List.length_cons]
      omega
  omega
theorem allT_all (snap : List UInt8) (rs : List RSl) : allT snap rs rs.length = allP snap (rs.map RSl.bs) := by
  unfold allT allP
  rw [List.take_length]
theorem allT_le (snap : List UInt8) (rs : List RSl) : ∀ k j, j + k = rs.length → (allT snap rs j).length ≤ (allP snap (rs.map RSl.bs)).length := by
  intro k
  induction k with
  | zero => intro j hj; obtain rfl : j = rs.length := by omega
            rw [allT_all]; exact Nat.le_refl _
  | succ k ih =>
    intro j hj
    have := ih (j + 1) (by omega)
    rw [allT_succ _ _ _ (by omega), List.length_append] at this
    omega
set_option maxRecDepth 100000 in
set_option maxHeartbeats 3200000 in
theorem lay_any (l hf ep sl pg : Nat) (bv : Value) (g k m c : Nat) (d : Dsk) (sv rv0 : Value) (su : Nat) (As : Option Addr) (cs : Nat) (snap : List UInt8) (rv : Value) (rs : List RSl) (w : World)
    (hL : LgC w l hf ep sl pg bv g sv rv0 su) (hd : DkAt w g k m c d) (hn : 8 ≤ d.kept.length) (hhf : hf ≤ 1) (hsl : sl ≤ 1) (hep : ep < 4294967296)
    (hs : RB w As snap) (hAs : As = none → cs = 0) (hsc : snap.length ≤ cs) (hsm : snap.length ≤ 1073741824) (hrs : RecsAt w rv rs) (hrm : ∀ r ∈ rs, r.bs.length ≤ 1073741824) (hT : (allP snap (rs.map RSl.bs)).length ≤ 1073741824) :
    Calls Try.prog 39 #[.pointer (some ⟨l, 0, none⟩), .slice As snap.length cs, rv] w fun e w' =>
      ∃ R, layP hf ep sl d snap (rs.map RSl.bs) = R ∧ DkAt w' g k m c R.d ∧ Only w w' [g, k, m] ∧
        ((R.e ≠ 0 ∧ e = .returned (.tuple #[.pointer none, .int .i64 R.e])) ∨
         (R.e = 0 ∧ ∃ x vs, e = .returned (.tuple #[.pointer (some ⟨x, 0, none⟩), .int .i64 0]) ∧ w.heap.size ≤ x ∧ LgAt w' x (1 - hf) R.ep (1 - sl) R.pg [] g k m c R.d vs rv rs.length ∧ OB w' w.heap.size vs snap)) := by
  obtain ⟨A, cr, rfl, hcr, hAr, hlr⟩ := hrs.1.form
  rw [List.length_map] at hcr
  obtain ⟨R, hR⟩ : ∃ R, layP hf ep sl d snap (rs.map RSl.bs) = R := ⟨_, rfl⟩
  have HR := Lib.hid hR
  have hb0 := hL.blk
  have k0 : w.cell? ⟨l, 0, none⟩ = some (.int .i64 hf) := blk_cell hb0
  have k1 : w.cell? ⟨l, 1, none⟩ = some (.int .i64 ep) := blk_cell hb0
  have k2 : w.cell? ⟨l, 2, none⟩ = some (.int .i64 sl) := blk_cell hb0
  have k5 : w.cell? ⟨l, 5, none⟩ = some (.pointer (some ⟨g, 0, none⟩)) := blk_cell hb0
  have hlt := blk_lt hb0
  obtain ⟨hf1, hh1⟩ : ∃ hf1, 1 - hf = hf1 := ⟨_, rfl⟩
  obtain ⟨sl1, hh2⟩ : ∃ sl1, 1 - sl = sl1 := ⟨_, rfl⟩
  have hi1 : (1 : Int) - (hf : Int) = (hf1 : Int) := by omega
  have hi2 : (1 : Int) - (sl : Int) = (sl1 : Int) := by omega
  have hl1 : hf1 ≤ 1 := by omega
  have hl2 : sl1 ≤ 1 := by omega
  have hw1 : IntKind.i64.wrap (hf1 : Int) = (hf1 : Int) := by go_arith
  have hw2 : IntKind.i64.wrap (sl1 : Int) = (sl1 : Int) := by go_arith
  rw [hh1, hh2]
  have HH := Lib.hid (⟨hh1, hh2⟩ : 1 - hf = hf1 ∧ 1 - sl = sl1)
  have HC := Lib.hid (bclone_wide As cs snap w.drew (by omega) hAs (RB.drew hs))
  have HM := Lib.hid (⟨hL, hd, hs, hrs, hlr⟩ : LgC w l hf ep sl pg bv g sv rv0 su ∧ DkAt w g k m c d ∧ RB w As snap ∧ RecsAt w (.slice A (rs.map RSl.v).length cr) rs ∧ Lies w A (rs.map RSl.v))
  have hrl : rs.length ≤ 1073741824 := by have := allP_len snap (rs.map RSl.bs); rw [List.length_map] at this; omega
  have HRs := Lib.hid (⟨hrm, hT⟩ : (∀ r ∈ rs, r.bs.length ≤ 1073741824) ∧ (allP snap (rs.map RSl.bs)).length ≤ 1073741824)
  rw [List.length_map] at *
  clear hR hb0 hh1 hh2 hL hd hs hrs hlr hrm hT
  go_enter Try.func39, Try.ntmps39
  go_wp2_with fail
  go_region_held3 (fun w' => w'.cell? ⟨l, 0, none⟩ = some (.int .i64 hf) ∧ w'.cell? ⟨l, 2, none⟩ = some (.int .i64 sl) ∧ w'.cell? ⟨l, 5, none⟩ = some (.pointer (some ⟨g, 0, none⟩))) (first | exact ⟨k0, k2, k5⟩ | exact ⟨e0, e2, e5⟩ | exact ⟨cell_alloc e0, cell_alloc e2, cell_alloc e5⟩) (first
    | (go_at_call 40; refine HC.out.mono ?_; rintro e w1 ⟨vs, rfl, ho1, hb1⟩; obtain ⟨A2, c2, rfl, hc2, hA2⟩ := OB.form ho1; have e0 := (hb1.cell (p := ⟨l, 0, none⟩) hlt).trans k0; have e2 := (hb1.cell (p := ⟨l, 2, none⟩) hlt).trans k2; have e5 := (hb1.cell (p := ⟨l, 5, none⟩) hlt).trans k5))
  have hbx : Below w.heap.size w (w1.alloc (.cells #[.int .i64 hf1, .int .i64 0, .int .i64 sl1, .int .i64 0, .slice none 0 0, .pointer (some ⟨g, 0, none⟩), .slice A2 snap.length c2, .slice A rs.length cr, .int .i64 rs.length] 65)) := ((Below.refl _ _).drew.trans hb1).alloc hb1.size _
  have hxx := heap_alloc_new w1 (.cells #[.int .i64 hf1, .int .i64 0, .int .i64 sl1, .int .i64 0, .slice none 0 0, .pointer (some ⟨g, 0, none⟩), .slice A2 snap.length c2, .slice A rs.length cr, .int .i64 rs.length] 65)
  have hox := OB.below ho1 ((Below.refl w1.heap.size w1).alloc (Nat.le_refl _) (.cells #[.int .i64 hf1, .int .i64 0, .int .i64 sl1, .int .i64 0, .slice none 0 0, .pointer (some ⟨g, 0, none⟩), .slice A2 snap.length c2, .slice A rs.length cr, .int .i64 rs.length] 65))
  have hx0 : w.heap.size ≤ w1.heap.size := hb1.size
  have hox2 : OB _ w.heap.size (.slice A2 snap.length c2) snap := hox
  rename_i hheld
  clear hheld hox ho1 hb1 e0 e2 e5 HC
  generalize w1.heap.size = x at *
  generalize w1.alloc (.cells #[.int .i64 hf1, .int .i64 0, .int .i64 sl1, .int .i64 0, .slice none 0 0, .pointer (some ⟨g, 0, none⟩), .slice A2 snap.length c2, .slice A rs.length cr, .int .i64 rs.length] 65) = wx at *
  have hxlt := blk_lt hxx
  have HX := Lib.hid (⟨hbx, hxx, hox2⟩ : Below w.heap.size w wx ∧ wx.heap[x]? = some (.cells #[.int .i64 hf1, .int .i64 0, .int .i64 sl1, .int .i64 0, .slice none 0 0, .pointer (some ⟨g, 0, none⟩), .slice A2 snap.length c2, .slice A rs.length cr, .int .i64 rs.length] 65 (0, 0)) ∧ OB wx w.heap.size (.slice A2 snap.length c2) snap)
  have HF1 := Lib.hid (framed_any As cs snap wx hsm hAs (HM.out.2.2.1.below hbx))
  have HT0 := Lib.hid (allT_zero snap rs)
  clear hbx hxx hox2
  go_wp2_with fail
  refine HF1.out.mono ?_
  rintro e w2 ⟨v2, rfl, ho2, hb2⟩
  rw [← HT0.out] at ho2
  have HO2 := Lib.hid ho2
  have HB2 := Lib.hid hb2
  clear ho2 hb2 HF1
  go_wp2_with fail
  go_loopg [9, 46] rs.length (fun r s9 s46 wr => ∃ j : Nat, j + r = rs.length ∧ s46 = .int .i64 j ∧ OB wr wx.heap.size s9 (allT snap rs j) ∧ Below wx.heap.size wx wr)
  case atStart => exact ⟨0, by omega, rfl, HO2.out, HB2.out⟩
  case round =>
    obtain ⟨j, hj, rfl, ho9, hb9⟩ := hrel
    obtain ⟨A9, c9, rfl, hl9, hA9⟩ := OB.form ho9
    have HO9 := Lib.hid ho9
    have HB9 := Lib.hid hb9
    clear ho9 hb9 HO2 HB2
    by_cases hjl : j < rs.length
    · have hj1 : decide ((j : Int) < (rs.length : Int)) = true := decide_eq_true (by omega)
      have hj2 : (j : Int) < (rs.length : Int) := by omega
      have hj0 : (0 : Int) ≤ (j : Int) := by omega
      have hbW : Below w.heap.size w wr := HX.out.1.trans (HB9.out.mono HX.out.1.size)
      obtain ⟨a, rfl, hcj⟩ := (HM.out.2.2.2.2.below hbW).at (k := j) (by rw [List.length_map]; exact hjl)
      rw [List.getElem_map] at hcj
      have hokj := ((HM.out.2.2.2.1.below hbW).2 rs[j] (List.getElem_mem hjl))
      have hTj := allT_succ snap rs j hjl
      have hTl := allT_le snap rs (rs.length - (j + 1)) (j + 1) (by omega)
      have hmj := HRs.out.1 rs[j] (List.getElem_mem hjl)
      generalize rs[j] = rj at *
      obtain ⟨Ar, cr2, br⟩ := rj
      unfold RSl.ok RSl.v at hokj
      unfold RSl.v at hcj
      dsimp only at hokj hcj hTj hmj
      obtain ⟨Ar', cr', er, hlr, hAr'⟩ := OB.form hokj
      injection er with er1 er2 er3
      subst er1 er3
      have HFj := Lib.hid (framed_any Ar cr2 br wr hmj hAr' (RB.of_own hokj))
      have HTj := Lib.hid hTj
      have hsum : (allT snap rs j).length + (framedP br).length ≤ 1073741824 := by rw [hTj, List.length_append] at hTl; exact Nat.le_trans hTl HRs.out.2
      have HSum := Lib.hid hsum
      have HML : Hid (maxLen = 9223372036854775807) := rfl
      clear hTj hTl hokj hsum hbW
      generalize framedP br = F at *
      generalize allT snap rs j = P9 at *
      go_wp2_with (first
        | (go_at_call 48; refine HFj.out.mono ?_; rintro e w4 ⟨v4, rfl, ho4, hb4⟩; obtain ⟨A4, c4, rfl, hl4, hA4⟩ := OB.form ho4; have HO4 := Lib.hid ho4; have HB4 := Lib.hid hb4; have HO9b := Lib.hid (HO9.out.below hb4); clear ho4 hb4)
        | (at_builtin; refine wpList_app _ rfl _ _ 29 rfl wx.heap.size 5 _ 1 1 Try.underlying29 info_u8 rfl (by decide) (.slice A9 P9.length c9) P9.length (P9.map vb) rfl HO9b.out A4 F.length c4 (F.map vb) rfl (by simp) (RB.of_own HO4.out) (vbs_one _) hA4 ?c6 ?c7 ?c8 ?_))
      case c6 => rw [HML.out]; have := HSum.out; omega
      case c7 => have := HSum.out; omega
      case c8 => exact Nat.le_trans HB9.out.size HB4.out.size
      intro v5 w5 hown5 hg5 _
      have HO5 := Lib.hid (OB.mk hown5 (by simp) (by simp) : OB w5 wx.heap.size v5 (P9 ++ F))
      have HB5 := Lib.hid ((HB9.out.trans (HB4.out.mono HB9.out.size)).grown hg5 (Nat.le_trans HB9.out.size HB4.out.size) (fun k hk => (World.ownsRow.lt HO9b.out k hk).1))
      clear hown5 hg5
      go_wp2_with fail
      go_roundg (rs.length - (j + 1))
      case measure => omega
      case rel => exact ⟨j + 1, by omega, by go_num, by rw [HTj.out]; exact HO5.out, HB5.out⟩
    · obtain rfl : j = rs.length := by omega
      have hj1 : decide ((rs.length : Int) < (rs.length : Int)) = false := decide_eq_false (by omega)
      rw [allT_all] at hl9 HO9 ⊢
      have hTl := HRs.out.2
      obtain ⟨all, hall⟩ : ∃ all, allP snap (rs.map RSl.bs) = all := ⟨_, rfl⟩
      have HAll := Lib.hid hall
      rw [hall] at hl9 HO9 hTl ⊢
      clear hall
      have hbW : Below w.heap.size w wr := HX.out.1.trans (HB9.out.mono HX.out.1.size)
      have hdk := HM.out.2.1.below hbW
      have hbl := (hbW.block l hlt).trans HM.out.1.blk
      have hbx := (HB9.out.block x hxlt).trans HX.out.2.1
      have c0 : wr.cell? ⟨l, 0, none⟩ = some (.int .i64 hf) := blk_cell hbl
      have c1 : wr.cell? ⟨l, 1, none⟩ = some (.int .i64 ep) := blk_cell hbl
      have c5 : wr.cell? ⟨l, 5, none⟩ = some (.pointer (some ⟨g, 0, none⟩)) := blk_cell hbl
      have x0 : wr.cell? ⟨x, 0, none⟩ = some (.int .i64 hf1) := blk_cell hbx
      have x3 : wr.cell? ⟨x, 3, none⟩ = some (.int .i64 0) := blk_cell hbx
      have x4 : wr.cell? ⟨x, 4, none⟩ = some (.slice none 0 0) := blk_cell hbx
      have f1 : wr.frozen? ⟨x, 1, none⟩ = false := blk_free hbx
      have HRm := Lib.hid (room_any g k m c d wr.drew (hdk.below (Below.refl _ _).drew))
      have hrm := d.room_le hdk.ok.most
      have hGr : ∀ W, Calls Try.prog 49 #[.agg #[.int .i64 0, .slice none 0 0], .int .i64 all.length, .int .i64 d.room] W fun e w' => e = .returned (.bool (growP 0 0 all.length d.room)) ∧ Below W.heap.size W w' := fun W => grow_any 0 all.length d.room 0 none [] W (by decide) (by decide) (by omega) (by omega)
      have HGr := Lib.hid hGr
      clear hGr
      have HW := Lib.hid (⟨hbW, hdk, hbl, hbx⟩ : Below w.heap.size w wr ∧ DkAt wr g k m c d ∧ _ ∧ _)
      clear hbW hdk hbl hbx
      have hxl := blk_lt HW.out.2.2.2
      have hll := blk_lt HW.out.2.2.1
      have hbD : Below wr.heap.size wr wr.drew := (Below.refl _ _).drew
      have HNx := Lib.hid (fun W (hb : Below wr.heap.size wr W) => next_any g k m c d hf1 ep W (HW.out.2.1.below hb) hn hl1 hep)
      cases hgr : growP 0 0 all.length d.room with
      | false =>
        have HR2 := Lib.hid (show R = ⟨8, d, 0, 0⟩ by rw [← HR.out]; unfold layP; rw [HAll.out, if_pos hgr])
        rw [hgr] at HGr
        go_wp2_with fail
        go_region_held3 (fun w' => w'.cell? ⟨x, 3, none⟩ = some (.int .i64 0) ∧ w'.cell? ⟨x, 4, none⟩ = some (.slice none 0 0) ∧ w'.cell? ⟨l, 5, none⟩ = some (.pointer (some ⟨g, 0, none⟩))) (first | exact ⟨x3, x4, c5⟩ | exact ⟨y3, y4, y5⟩) (first
          | (go_at_call 50; refine HRm.out.mono ?_; rintro e w6 ⟨rfl, rfl⟩)
          | (go_at_call 49; refine (HGr.out _).mono ?_; rintro e w6 ⟨rfl, hb6⟩; have y3 := (hb6.cell (p := ⟨x, 3, none⟩) hxl).trans x3; have y4 := (hb6.cell (p := ⟨x, 4, none⟩) hxl).trans x4; have y5 := (hb6.cell (p := ⟨l, 5, none⟩) hll).trans c5))
        have hbE : Below w.heap.size w w6 := HW.out.1.trans ((hbD.trans hb6).mono HW.out.1.size)
        go_wp2_with fail
        go_returns
        refine ⟨R, HR.out, ?_⟩
        rw [HR2.out]
        exact ⟨HM.out.2.1.below hbE, .of_below hbE _, .inl ⟨(fun h => by cases h), rfl⟩⟩
      | true =>
        rw [hgr] at HGr
        have hNx1 : ∀ W, Below wr.heap.size wr W → Calls Try.prog 62 #[.pointer (some ⟨g, 0, none⟩), .int .i64 hf1, .int .i64 ep] W fun e w' => e = .returned (.tuple #[.int .i64 (if d.nextE hf1 ep = 0 then d.topE hf1 d.room ep + 1 else 0 : Nat), .int .i64 (d.nextE hf1 ep)]) ∧ Below W.heap.size W w' := HNx.out
        clear HNx
        have hlay : layP hf ep sl d snap (rs.map RSl.bs) = (if d.nextE hf1 ep ≠ 0 then ⟨d.nextE hf1 ep, d, 0, 0⟩ else
            (let ep2 := d.topE hf1 d.room ep + 1
             let p := pourP hf1 ep2 all.length d 0 [] all
             if p.e ≠ 0 then ⟨p.e, p.d, 0, 0⟩
             else if p.d.actE ≠ 0 then ⟨p.d.actE, p.d.synced, 0, 0⟩
             else if p.d.synced.putE (sl1 : Nat) ep2 0 [UInt8.ofNat hf1] ≠ 0 then ⟨p.d.synced.putE (sl1 : Nat) ep2 0 [UInt8.ofNat hf1], p.d.synced.put (sl1 : Nat) ep2 0 [UInt8.ofNat hf1], 0, 0⟩
             else if (p.d.synced.put (sl1 : Nat) ep2 0 [UInt8.ofNat hf1]).actE ≠ 0 then ⟨(p.d.synced.put (sl1 : Nat) ep2 0 [UInt8.ofNat hf1]).actE, (p.d.synced.put (sl1 : Nat) ep2 0 [UInt8.ofNat hf1]).synced, 0, 0⟩
             else ⟨0, (p.d.synced.put (sl1 : Nat) ep2 0 [UInt8.ofNat hf1]).synced, if 0 < p.bs.length then p.pg + 1 else p.pg, ep2⟩ : Laid)) := by
          unfold layP
          rw [HAll.out, hgr, HH.out.1, HH.out.2]
          rfl
        rw [HR.out] at hlay
        have hEPlt : d.nextE hf1 ep = 0 → d.topE hf1 d.room ep + 1 < 4294967296 := by
          intro h
          unfold Dsk.nextE at h
          split at h
          · cases h
          · split at h
            · cases h
            · omega
        have hgr2 : all.length ≤ 400000 := by
          unfold growP at hgr
          simp at hgr
          omega
        have HLay := Lib.hid hlay
        have HEL := Lib.hid hEPlt
        clear hlay hEPlt
        obtain ⟨NE, hNE⟩ : ∃ NE, d.nextE hf1 ep = NE := ⟨_, rfl⟩
        obtain ⟨EP, hEP⟩ : ∃ EP, d.topE hf1 d.room ep + 1 = EP := ⟨_, rfl⟩
        rw [hNE, hEP] at hNx1 HLay HEL
        obtain ⟨X, hX⟩ : ∃ X : Nat, (if NE = 0 then EP else 0) = X := ⟨_, rfl⟩
        rw [hX] at hNx1
        have HNx := Lib.hid hNx1
        have HX2 := Lib.hid hX
        clear hNx1 hNE hEP hX
        go_wp2_with fail
        go_region_held3 (fun w' => w'.cell? ⟨x, 3, none⟩ = some (.int .i64 0) ∧ w'.cell? ⟨x, 4, none⟩ = some (.slice none 0 0) ∧ w'.cell? ⟨l, 5, none⟩ = some (.pointer (some ⟨g, 0, none⟩))) (first | exact ⟨x3, x4, c5⟩ | exact ⟨y3, y4, y5⟩) (first
          | (go_at_call 50; refine HRm.out.mono ?_; rintro e w6 ⟨rfl, rfl⟩)
          | (go_at_call 49; refine (HGr.out _).mono ?_; rintro e w6 ⟨rfl, hb6⟩; have y3 := (hb6.cell (p := ⟨x, 3, none⟩) hxl).trans x3; have y4 := (hb6.cell (p := ⟨x, 4, none⟩) hxl).trans x4; have y5 := (hb6.cell (p := ⟨l, 5, none⟩) hll).trans c5))
        rename_i hheld
        have hb6' : Below wr.heap.size wr w6 := hbD.trans hb6
        have y0 := (hb6'.cell (p := ⟨x, 0, none⟩) hxl).trans x0
        have y1 := (hb6'.cell (p := ⟨l, 1, none⟩) hll).trans c1
        have HN6 := Lib.hid (HNx.out w6.drew hb6'.drew)
        have hxl6 : x < w6.heap.size := Nat.lt_of_lt_of_le hxl hb6'.size
        have hll6 : l < w6.heap.size := Nat.lt_of_lt_of_le hll hb6'.size
        have HB6 := Lib.hid hb6'
        clear hheld hb6 hb6' hbD y3 y4 x0 x3 x4 c0 c1 c5 f1 HGr HRm HNx
        have nx : True := trivial
        by_cases hz : NE = 0
        · subst hz
          obtain rfl : EP = X := by rw [← HX2.out, if_pos rfl]
          have hEP := HEL.out rfl
          rw [if_neg (by simp)] at HLay
          clear HX2 HEL
          go_wp2_with fail
          go_region_held3 (fun w' => w'.cell? ⟨x, 0, none⟩ = some (.int .i64 hf1) ∧ w'.cell? ⟨l, 1, none⟩ = some (.int .i64 ep) ∧ w'.cell? ⟨l, 5, none⟩ = some (.pointer (some ⟨g, 0, none⟩))) (first | exact ⟨y0, y1, y5⟩ | exact ⟨z0, z1, z5⟩) (first
            | (go_at_call 62; refine HN6.out.mono ?_; rintro e w7 ⟨rfl, hb7⟩; have z0 := (hb7.cell (p := ⟨x, 0, none⟩) hxl6).trans y0; have z1 := (hb7.cell (p := ⟨l, 1, none⟩) hll6).trans y1; have z5 := (hb7.cell (p := ⟨l, 5, none⟩) hll6).trans y5))
          rename_i hheld
          have hb67 : Below wr.heap.size wr w7 := HB6.out.trans ((Below.refl w6.heap.size w6).drew.trans hb7 |>.mono HB6.out.size)
          have hbE : Below w.heap.size w w7 := HW.out.1.trans (hb67.mono HW.out.1.size)
          have hx7 := (hb67.block x hxl).trans HW.out.2.2.2
          have hl7 := (hb67.block l hll).trans HW.out.2.2.1
          have hd7 := HW.out.2.1.below hb67
          have x1 : w7.cell? ⟨x, 1, none⟩ = some (.int .i64 0) := blk_cell hx7
          have xf1 : w7.frozen? ⟨x, 1, none⟩ = false := blk_free hx7
          have ho9 := HO9.out.below hb67
          have hdl := HM.out.2.1.lt
          have hs7 := (HX.out.2.2.below HB9.out).below hb67
          have hlno : l ∉ [g, k, m] := HM.out.2.1.apart HM.out.1.blk (by decide) (by decide)
          have hLS : LayS w (w7.setCell ⟨x, 1, none⟩ (.int .i64 EP)) l x hf1 EP sl1 0 [] g k m c d (.slice A2 snap.length c2) (.slice A rs.length cr) rs.length snap := by
            have hxx := heap_setCell_same _ _ 1 _ _ (.int .i64 EP) hx7
            have hgS := Lib.grownBy_setCell w7 x 1 (.int .i64 EP)
            have hoS := Only.of_grown hgS
            have hd8 := hd7.only hoS (by simp; omega) (by simp; omega) (by simp; omega)
            refine ⟨((Only.of_below hbE [x, g, k, m]).trans (hoS.mono (by simp))).new (by intro i hi; simp at hi ⊢; omega), ⟨⟨_, ⟨hxx⟩, World.ownsRow_nil _ _ _ _⟩, hd8, by omega, by omega, by omega⟩, ?_, (hgS.block l (Nat.lt_of_lt_of_le hlt hbE.size) (by intro e; injection e with e; omega)).trans (hbE.block l hlt), hlt, hlno⟩
            exact own_only hs7 hoS (fun j hj => by
              have := own_apart hs7 hx7 (by intro cs f e; cases e) j hj
              simpa using this)
          have ho9S : OB (w7.setCell ⟨x, 1, none⟩ (.int .i64 EP)) wx.heap.size (.slice A9 all.length c9) all := own_only ho9 (Only.of_grown (Lib.grownBy_setCell w7 x 1 (.int .i64 EP))) (fun j hj => by
            have := (World.ownsRow.lt ho9 j hj).1
            simp; omega)
          have HP := pour_any x hf1 EP sl1 0 [] g k m c d (.slice A2 snap.length c2) (.slice A rs.length cr) rs.length A9 c9 all _ hLS.lg hl1 hEP (by decide) (by simp; omega) (RB.of_own ho9S) hA9 hl9 (fun a ha hne => by
            subst ha
            have := (World.ownsRow.lt ho9S a.block rfl).1
            have := HX.out.1.size
            simp; omega)
          have HLS := Lib.hid hLS
          clear hheld hb67 hbE hx7 hl7 hd7 ho9 hs7 hLS ho9S z0 z1 z5 hb7 y0 y1 y5 HN6
          have HPo := Lib.hid HP
          clear HP
          go_wp2_with fail
          generalize w7.setCell ⟨x, 1, none⟩ (.int .i64 EP) = wA at *
          refine HPo.out.mono ?_
          rintro e w8 ⟨rfl, hLg8, ho8⟩
          have hHL := HLay.out
          try dsimp only at hHL
          have hpp := pourP_pg hf1 EP all.length d 0 [] all (by decide)
          obtain ⟨P, hP⟩ : ∃ P, pourP hf1 EP all.length d 0 [] all = P := ⟨_, rfl⟩
          rw [hP] at hLg8 hHL hpp ⊢
          obtain ⟨pd, pp, pbs, pe⟩ := P
          try dsimp only at hLg8 hHL hpp ⊢
          have hLS8 := HLS.out.log hx0 hLg8 ho8
          have HL8 := Lib.hid hHL
          have HS8 := Lib.hid hLS8
          have y5 : w8.cell? ⟨l, 5, none⟩ = some (.pointer (some ⟨g, 0, none⟩)) := blk_cell (hLS8.lb.trans HM.out.1.blk)
          have HSy := Lib.hid (sync_any g k m c pd w8 hLg8.dk)
          have hppb : pp ≤ 65536 := by simp at hpp; omega
          clear hHL hLg8 ho8 hLS8 hpp hP HLay HPo HLS
          by_cases hpe : pe = 0
          · subst hpe
            rw [if_neg (by simp)] at HL8
            obtain ⟨A1, hA1⟩ : ∃ A1, pd.actE = A1 := ⟨_, rfl⟩
            rw [hA1] at HSy HL8
            clear hA1
            go_wp2_with fail
            refine HSy.out.mono ?_
            rintro e w9 ⟨rfl, hd9, ho9⟩
            have hLS9 := HS8.out.disk hd9 ho9
            have HS9 := Lib.hid hLS9
            obtain ⟨bv9, hx9, hbv9⟩ := hLS9.lg.cells
            have hl9' := hLS9.lb.trans HM.out.1.blk
            clear hd9 ho9 hLS9 HSy y5
            by_cases hpa : A1 = 0
            · subst hpa
              rw [if_neg (by simp)] at HL8
              obtain ⟨P9', rfl⟩ : ∃ P9', P9' = pd.synced := ⟨_, rfl⟩
              have y5 : w9.drew.cell? ⟨l, 5, none⟩ = some (.pointer (some ⟨g, 0, none⟩)) := blk_cell hl9'
              have x0 : w9.drew.cell? ⟨x, 0, none⟩ = some (.int .i64 hf1) := blk_cell hx9.blk
              have x1 : w9.drew.cell? ⟨x, 1, none⟩ = some (.int .i64 EP) := blk_cell hx9.blk
              have x2 : w9.drew.cell? ⟨x, 2, none⟩ = some (.int .i64 sl1) := blk_cell hx9.blk
              have hu8 : IntKind.u8.wrap (hf1 : Int) = (hf1 : Int) := by go_arith
              have hx9l := blk_lt hx9.blk
              have hl9l := blk_lt hl9'
              have hb9A : Below w9.heap.size w9 (w9.drew.alloc (.cells #[.int .u8 hf1] 5)) := (Below.refl _ _).drew.alloc (Nat.le_refl _) _
              have hrb : RB (w9.drew.alloc (.cells #[.int .u8 hf1] 5)) (some ⟨w9.drew.heap.size, 0, none⟩) [UInt8.ofNat hf1] := by
                have h1 : (UInt8.ofNat hf1).toNat = hf1 := by rw [UInt8.toNat_ofNat']; omega
                have h2 : ([UInt8.ofNat hf1].map vb).toArray = #[.int .u8 hf1] := by simp [vb, h1]
                have := RB.new w9.drew 5 [UInt8.ofNat hf1] (0, 0)
                rw [h2] at this
                exact this
              have hPut := put_any g k m c pd.synced (sl1 : Nat) EP 0 (some ⟨w9.drew.heap.size, 0, none⟩) 1 [UInt8.ofNat hf1] (w9.drew.alloc (.cells #[.int .u8 hf1] 5)) (HS9.out.lg.dk.below hb9A) hEP (by decide) (by simp) hrb (fun e => by cases e)
              obtain ⟨A2e, hA2e⟩ : ∃ A2e, pd.synced.putE (sl1 : Nat) EP 0 [UInt8.ofNat hf1] = A2e := ⟨_, rfl⟩
              obtain ⟨pd2, hpd2⟩ : ∃ pd2, pd.synced.put (sl1 : Nat) EP 0 [UInt8.ofNat hf1] = pd2 := ⟨_, rfl⟩
              rw [hA2e, hpd2] at hPut HL8
              have HPut := Lib.hid hPut
              have HB9A := Lib.hid hb9A
              have nlx : l ≠ g ∧ l ≠ m ∧ x ≠ g ∧ x ≠ m := by
                have h1 := HS9.out.ll.2
                have h2 := HS9.out.lg.lg
                have h3 := HS9.out.lg.lm
                simp at h1
                exact ⟨h1.1, h1.2.2, h2, h3⟩
              clear hPut hrb hb9A hA2e hpd2
              go_wp2_with fail
              go_region_held3 (fun w' => w'.cell? ⟨l, 5, none⟩ = some (.pointer (some ⟨g, 0, none⟩)) ∧ w'.cell? ⟨x, 0, none⟩ = some (.int .i64 hf1) ∧ w'.cell? ⟨x, 1, none⟩ = some (.int .i64 EP) ∧ w'.cell? ⟨x, 2, none⟩ = some (.int .i64 sl1)) (first | exact ⟨y5, x0, x1, x2⟩ | exact ⟨cell_alloc y5, cell_alloc x0, cell_alloc x1, cell_alloc x2⟩ | exact ⟨z5, z0, z1, z2⟩) (first
                | (go_at_call 63; refine HPut.out.mono ?_; rintro e w10 ⟨rfl, hd10, ho10⟩; have z5 := (World.cell?_of_block (a := ⟨l, 5, none⟩) (ho10.block l (by simp; omega) (by simp; omega))).trans (cell_alloc y5); have z0 := (World.cell?_of_block (a := ⟨x, 0, none⟩) (ho10.block x (by simp; omega) (by simp; omega))).trans (cell_alloc x0); have z1 := (World.cell?_of_block (a := ⟨x, 1, none⟩) (ho10.block x (by simp; omega) (by simp; omega))).trans (cell_alloc x1); have z2 := (World.cell?_of_block (a := ⟨x, 2, none⟩) (ho10.block x (by simp; omega) (by simp; omega))).trans (cell_alloc x2)))
              rename_i hheld
              have ho9' : Only w9 w10 [g, k, m] := (Only.of_below HB9A.out _).trans (ho10.mono (by simp))
              have hLS10 := HS9.out.disk hd10 ho9'
              have HS10 := Lib.hid hLS10
              have HSy := Lib.hid (sync_any g k m c pd2 w10 hd10)
              have y5 := z5
              clear hheld z5 z0 z1 z2 x0 x1 x2 ho9' hLS10 hd10 ho10 HPut HB9A hx9 hbv9 hl9'
              by_cases hpb : A2e = 0
              · subst hpb
                rw [if_neg (by simp)] at HL8
                obtain ⟨A3, hA3⟩ : ∃ A3, pd2.actE = A3 := ⟨_, rfl⟩
                rw [hA3] at HSy HL8
                clear hA3
                go_wp2_with fail
                refine HSy.out.mono ?_
                rintro e w11 ⟨rfl, hd11, ho11⟩
                have hLS11 := HS10.out.disk hd11 ho11
                have HS11 := Lib.hid hLS11
                obtain ⟨bv11, hx11, hbv11⟩ := hLS11.lg.cells
                obtain ⟨Ab, cb, rfl, -⟩ := OB.form hbv11
                have x4 : w11.cell? ⟨x, 4, none⟩ = some (.slice Ab pbs.length cb) := blk_cell hx11.blk
                have HT := Lib.hid (turn_any x hf1 EP sl1 pp _ g _ _ _ w11 hx11 hppb)
                clear hd11 ho11 hLS11 HSy y5 hx11 hbv11
                by_cases hpc : A3 = 0
                · subst hpc
                  rw [if_neg (by simp)] at HL8
                  by_cases hpl : 0 < pbs.length
                  · have hp1 : decide ((pbs.length : Int) > 0) = true := decide_eq_true (by omega)
                    have hp2 : decide (0 < pbs.length) = true := decide_eq_true hpl
                    have HR2 := Lib.hid (show R = ⟨0, pd2.synced, pp + 1, EP⟩ by rw [HL8.out, if_pos hpl])
                    clear HL8
                    go_wp2_with (go_at_call 52; refine HT.out.mono ?_; rintro e w12 ⟨rfl, hx12, ho12⟩)
                    go_returns
                    have hlg12 : LgAt w12 x hf1 EP sl1 (pp + 1) [] g k m c pd2.synced (.slice A2 snap.length c2) (.slice A rs.length cr) rs.length := by
                      have h := HS11.out.lg
                      exact ⟨⟨_, hx12, World.ownsRow_nil _ _ _ _⟩, h.dk.only ho12 (by simpa using h.lg.symm) (by simpa using h.lk.symm) (by simpa using h.lm.symm), h.lg, h.lk, h.lm⟩
                    have hLS12 := HS11.out.log hx0 hlg12 (ho12.mono (by simp))
                    refine ⟨R, HR.out, ?_⟩
                    rw [HR2.out]
                    exact ⟨hlg12.dk, hLS12.only, .inr ⟨rfl, x, _, rfl, hx0, hlg12, hLS12.sn⟩⟩
                  · have hp1 : decide ((pbs.length : Int) > 0) = false := decide_eq_false (by omega)
                    have hp2 : decide (0 < pbs.length) = false := decide_eq_false hpl
                    have HR2 := Lib.hid (show R = ⟨0, pd2.synced, pp, EP⟩ by rw [HL8.out, if_neg hpl])
                    clear HL8 HT
                    go_wp2_with fail
                    go_returns
                    have hp0 : pbs = [] := List.eq_nil_of_length_eq_zero (by omega)
                    subst hp0
                    refine ⟨R, HR.out, ?_⟩
                    rw [HR2.out]
                    exact ⟨HS11.out.lg.dk, HS11.out.only, .inr ⟨rfl, x, _, rfl, hx0, HS11.out.lg, HS11.out.sn⟩⟩
                · have hz2 : ¬ ((A3 : Int) = 0) := by omega
                  have hz3 : ((A3 : Int) == 0) = false := by rw [beq_eq_false_iff_ne]; omega
                  have HR2 := Lib.hid (show R = ⟨A3, pd2.synced, 0, 0⟩ by rw [HL8.out, if_pos hpc])
                  clear HL8
                  go_wp2_with fail
                  go_returns
                  refine ⟨R, HR.out, ?_⟩
                  rw [HR2.out]
                  exact ⟨HS11.out.lg.dk, HS11.out.only, .inl ⟨hpc, rfl⟩⟩
              · have hz2 : ¬ ((A2e : Int) = 0) := by omega
                have hz3 : ((A2e : Int) == 0) = false := by rw [beq_eq_false_iff_ne]; omega
                have HR2 := Lib.hid (show R = ⟨A2e, pd2, 0, 0⟩ by rw [HL8.out, if_pos hpb])
                clear HL8
                go_wp2_with fail
                go_returns
                refine ⟨R, HR.out, ?_⟩
                rw [HR2.out]
                exact ⟨HS10.out.lg.dk, HS10.out.only, .inl ⟨hpb, rfl⟩⟩
            · have hz2 : ¬ ((A1 : Int) = 0) := by omega
              have hz3 : ((A1 : Int) == 0) = false := by rw [beq_eq_false_iff_ne]; omega
              have HR2 := Lib.hid (show R = ⟨A1, pd.synced, 0, 0⟩ by rw [HL8.out, if_pos hpa])
              clear HL8
              go_wp2_with fail
              go_returns
              refine ⟨R, HR.out, ?_⟩
              rw [HR2.out]
              exact ⟨HS9.out.lg.dk, HS9.out.only, .inl ⟨hpa, rfl⟩⟩
          · have hz2 : ¬ ((pe : Int) = 0) := by omega
            have hz3 : ((pe : Int) == 0) = false := by rw [beq_eq_false_iff_ne]; omega
            have HR2 := Lib.hid (show R = ⟨pe, pd, 0, 0⟩ by rw [HL8.out, if_pos hpe])
            clear HL8
            go_wp2_with fail
            go_returns
            refine ⟨R, HR.out, ?_⟩
            rw [HR2.out]
            exact ⟨HS8.out.lg.dk, HS8.out.only, .inl ⟨hpe, rfl⟩⟩
        · have hz2 : ¬ ((NE : Int) = 0) := by omega
          have hz3 : ((NE : Int) == 0) = false := by rw [beq_eq_false_iff_ne]; omega
          have HR2 := Lib.hid (show R = ⟨NE, d, 0, 0⟩ by rw [HLay.out, if_pos hz])
          clear HLay
          go_wp2_with fail
          go_region_held3 (fun w' => w'.cell? ⟨x, 0, none⟩ = some (.int .i64 hf1) ∧ w'.cell? ⟨l, 1, none⟩ = some (.int .i64 ep) ∧ w'.cell? ⟨l, 5, none⟩ = some (.pointer (some ⟨g, 0, none⟩))) (first | exact ⟨y0, y1, y5⟩ | exact ⟨z0, z1, z5⟩) (first
            | (go_at_call 62; refine HN6.out.mono ?_; rintro e w7 ⟨rfl, hb7⟩; have z0 := (hb7.cell (p := ⟨x, 0, none⟩) hxl6).trans y0; have z1 := (hb7.cell (p := ⟨l, 1, none⟩) hll6).trans y1; have z5 := (hb7.cell (p := ⟨l, 5, none⟩) hll6).trans y5))
          have hbE : Below w.heap.size w w7 := HW.out.1.trans ((HB6.out.trans ((Below.refl w6.heap.size w6).drew.trans hb7 |>.mono HB6.out.size)).mono HW.out.1.size)
          go_wp2_with fail
          go_returns
          refine ⟨R, HR.out, ?_⟩
          rw [HR2.out]
          exact ⟨HM.out.2.1.below hbE, .of_below hbE _, .inl ⟨hz, rfl⟩⟩
end Go.Proofs.Ytjfpanamkkdebaa
