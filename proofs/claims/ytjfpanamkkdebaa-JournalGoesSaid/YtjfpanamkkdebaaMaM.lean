/- The document's log in memory: turn, size, lay.
   The document's log: Format, Sync, Save, Open.
   The document's log: Format, Open.
   The document's log: Append.
   Are two lists of records the same?
   A new log, plain. -/
import Derived.Test.YtjfpanamkkdebaaMaL
import Derived.Deep.RegionLaw
namespace Go.Proofs.Ytjfpanamkkdebaa
open Go.RowKit
set_option linter.unusedVariables false
set_option linter.unusedSimpArgs false
/-- The document's log's six cells. -/
structure RfC (w : World) (r : Nat) (sv rv : Value) (su pages page fill : Nat) : Prop where
  blk : w.heap[r]? = some (.cells #[sv, rv, .int .i64 su, .int .i64 pages, .int .i64 page, .int .i64 fill] 72 (0, 0))
def RLog (w : World) (r : Nat) (q : Option Nat) (x : RL) : Prop :=
  ∃ sv rv rs, RfC w r sv rv x.sure x.pages x.page x.fill ∧ OB w 0 sv x.snap ∧ RecsAt w rv rs ∧ rs.map RSl.bs = x.recs ∧ rv.ownBlock = q
theorem RLog.lt {w : World} {r : Nat} {q : Option Nat} {x : RL} (h : RLog w r q x) : r < w.heap.size := by
  obtain ⟨sv, rv, rs, hc, _⟩ := h
  exact blk_lt hc.blk
theorem RLog.only {w w' : World} {r : Nat} {q : Option Nat} {x : RL} {S : List Nat} (h : RLog w r q x) (ho : Only w w' S) (hr : r ∉ S) (hS : ∀ j cs e f, w.heap[j]? = some (.cells cs e f) → e = 5 → j ∉ S) (hq : ∀ j, q = some j → j ∉ S) : RLog w' r q x := by
  obtain ⟨sv, rv, rs, hc, hs, hrs, he, hqq⟩ := h
  refine ⟨sv, rv, rs, ⟨(ho.block r (blk_lt hc.blk) hr).trans hc.blk⟩, own_only hs ho (fun j hj => by obtain ⟨cs, hc⟩ := own_blk hs j hj; exact hS _ _ _ _ hc rfl), ⟨?_, fun y hy => (hrs.2 y hy).only ho (fun j cs f hj => hS j cs _ f hj rfl)⟩, he, hqq⟩
  have h1 := hrs.1
  rcases h1 with h1 | ⟨g, o, c, cs, rfl, hh, k⟩
  · exact .inl h1
  · exact .inr ⟨g, o, c, cs, rfl, (ho.block g (blk_lt hh) (hq g (by rw [← hqq]; rfl))).trans hh, k⟩
theorem RLog.below {w w' : World} {r : Nat} {q : Option Nat} {x : RL} (h : RLog w r q x) (hb : Below w.heap.size w w') : RLog w' r q x :=
  h.only (.of_below hb []) List.not_mem_nil (fun _ _ _ _ _ _ => List.not_mem_nil) (fun _ _ => List.not_mem_nil)
set_option maxHeartbeats 800000 in
theorem rturn_any (r : Nat) (sv rv : Value) (su pages page fill : Nat) (w : World) (h : RfC w r sv rv su pages page fill) (hp : page ≤ 1000000) :
    Calls Try.prog 65 #[.pointer (some ⟨r, 0, none⟩)] w fun e w' => e = .returned (.tuple #[]) ∧ RfC w' r sv rv su pages (if 0 < fill then page + 1 else page) 0 ∧ Only w w' [r] := by
  obtain ⟨P, hP⟩ : ∃ P, (if 0 < fill then page + 1 else page) = P := ⟨_, rfl⟩
  rw [hP]
  have HP := Lib.hid hP
  clear hP
  have HB := Lib.hid h.blk
  have k4 : w.cell? ⟨r, 4, none⟩ = some (.int .i64 page) := blk_cell h.blk
  have k5 : w.cell? ⟨r, 5, none⟩ = some (.int .i64 fill) := blk_cell h.blk
  have f4 : w.frozen? ⟨r, 4, none⟩ = false := blk_free h.blk
  have f5 : w.frozen? ⟨r, 5, none⟩ = false := blk_free h.blk
  by_cases hf : 0 < fill
  · have hp1 : decide ((fill : Int) > 0) = true := decide_eq_true (by omega)
    have hp2 : decide (0 < fill) = true := decide_eq_true hf
    clear h
    go_enter Try.func65, Try.ntmps65
    go_wp2_with fail
    refine bodyPost_end (results_none rfl _ _ _) rfl ?_
    have hb1 := heap_setCell_same _ _ 4 _ _ (.int .i64 ((page : Int) + 1)) HB.out
    have hb2 := heap_setCell_same _ _ 5 _ _ (.int .i64 0) hb1
    rw [← HP.out, if_pos hf]
    exact ⟨rfl, ⟨hb2⟩, ((Only.of_grown (Lib.grownBy_setCell w r 4 _))).trans (Only.of_grown (Lib.grownBy_setCell _ r 5 _))⟩
  · have hp1 : decide ((fill : Int) > 0) = false := decide_eq_false (by omega)
    have hp2 : decide (0 < fill) = false := decide_eq_false hf
    have hf0 : fill = 0 := by omega
    clear h
    go_enter Try.func65, Try.ntmps65
    go_wp2_with fail
    refine bodyPost_end (results_none rfl _ _ _) rfl ?_
    rw [← HP.out, if_neg hf]
    subst hf0
    exact ⟨rfl, ⟨HB.out⟩, Only.refl _ _⟩
set_option maxHeartbeats 800000 in
theorem rsize_any (A : Option Addr) (c : Nat) (b : List UInt8) (w : World) (hm : b.length ≤ 1073741824) :
    Calls Try.prog 54 #[.slice A b.length c] w fun e w' => e = .returned (.int .i64 (framedP b).length) ∧ Below w.heap.size w w' := by
  have hn : numNat ((b.length : Int) + 4) = b.length + 4 := by unfold numNat; omega
  have HN := rnum_any none 0 [] ((b.length : Int) + 4) w (by simp) (by omega) (fun _ => rfl) (Lies.nil _ _)
  rw [hn] at HN
  have hfl := framedP_length b
  have hnl := numBytes_length (b.length + 4)
  have hne := need_le (b.length + 4)
  obtain ⟨M, hM⟩ : ∃ M, numBytes (b.length + 4) = M := ⟨_, rfl⟩
  obtain ⟨F, hF⟩ : ∃ F, (framedP b).length = F := ⟨_, rfl⟩
  rw [hM] at HN hnl
  rw [hF] at hfl ⊢
  obtain ⟨nn, hnn⟩ : ∃ nn, need (b.length + 4) = nn := ⟨_, rfl⟩
  rw [hnn] at hfl hnl hne
  have HN := Lib.hid HN
  clear hn hM hF hnn
  go_enter Try.func54, Try.ntmps54
  go_wp2_with (go_at_call 71; refine HN.out.mono ?_; rintro e w' ⟨v, rfl, ho, hb⟩; simp only [List.nil_append] at ho; obtain ⟨A2, c2, rfl, -⟩ := OB.form ho)
  go_ret
  exact ⟨ret_int (by omega), hb⟩
set_option maxRecDepth 100000 in
set_option maxHeartbeats 3200000 in
theorem rlay_any (r : Nat) (sv rv : Value) (x : RL) (As : Option Addr) (cs : Nat) (sn : List UInt8) (rv2 : Value) (rs : List RSl) (w : World)
    (h : RfC w r sv rv x.sure x.pages x.page x.fill) (hsv : ∃ A n c, sv = .slice A n c) (hrv : ∃ A n c, rv = .slice A n c) (hpg : x.pages ≤ 1000000) (hs : RB w As sn) (hAs : As = none → cs = 0) (hsm : sn.length ≤ 1073741824) (hrs : RecsAt w rv2 rs) (hrm : ∀ q ∈ rs, q.bs.length ≤ 1073741824) (hT : (allP sn (rs.map RSl.bs)).length ≤ 1073741824) :
    Calls Try.prog 64 #[.pointer (some ⟨r, 0, none⟩), .slice As sn.length cs, rv2] w fun e w' =>
      e = .returned (.int .i64 (x.lay sn (rs.map RSl.bs)).1) ∧ Only w w' [r] ∧
      (((x.lay sn (rs.map RSl.bs)).1 ≠ 0 ∧ RfC w' r sv rv x.sure x.pages x.page x.fill) ∨
       ((x.lay sn (rs.map RSl.bs)).1 = 0 ∧ ∃ sv2, RfC w' r sv2 rv2 (x.lay sn (rs.map RSl.bs)).2.sure (x.lay sn (rs.map RSl.bs)).2.pages (x.lay sn (rs.map RSl.bs)).2.page (x.lay sn (rs.map RSl.bs)).2.fill ∧ OB w' w.heap.size sv2 sn)) := by
  obtain ⟨A0, n0, c0, rfl⟩ := hsv
  obtain ⟨A1, n1, c1, rfl⟩ := hrv
  obtain ⟨A, cr, rfl, hcr, hAr, hlr⟩ := hrs.1.form
  have hlt := blk_lt h.blk
  have k3 : w.cell? ⟨r, 3, none⟩ = some (.int .i64 x.pages) := blk_cell h.blk
  have HS1 := Lib.hid (rsize_any As cs sn w hsm)
  have hrl : rs.length ≤ 1073741824 := by have := allP_len sn (rs.map RSl.bs); rw [List.length_map] at this; omega
  have HM := Lib.hid (⟨h, hs, hrs, hlr⟩ : RfC w r (.slice A0 n0 c0) (.slice A1 n1 c1) x.sure x.pages x.page x.fill ∧ RB w As sn ∧ RecsAt w (.slice A (rs.map RSl.v).length cr) rs ∧ Lies w A (rs.map RSl.v))
  have HRs := Lib.hid (⟨hrm, hT⟩ : (∀ q ∈ rs, q.bs.length ≤ 1073741824) ∧ (allP sn (rs.map RSl.bs)).length ≤ 1073741824)
  have HT0 := Lib.hid (allT_zero sn rs)
  obtain ⟨R, hR⟩ : ∃ R, x.lay sn (rs.map RSl.bs) = R := ⟨_, rfl⟩
  have HR := Lib.hid hR
  rw [hR]
  rw [List.length_map] at *
  clear hR h hs hrs hlr hrm hT
  go_enter Try.func64, Try.ntmps64
  go_wp2_with fail
  refine HS1.out.mono ?_
  rintro e w1 ⟨rfl, hb1⟩
  rw [← HT0.out]
  have HB1 := Lib.hid hb1
  clear hb1 HS1
  go_wp2_with fail
  go_loopg [7, 14] rs.length (fun q s7 s14 wr => ∃ j : Nat, j + q = rs.length ∧ s14 = .int .i64 j ∧ s7 = .int .i64 (allT sn rs j).length ∧ Below w.heap.size w wr)
  case atStart => exact ⟨0, by omega, rfl, rfl, HB1.out⟩
  case round =>
    obtain ⟨j, hj, rfl, rfl, hb9⟩ := hrel
    have HB9 := Lib.hid hb9
    clear hb9 HB1
    by_cases hjl : j < rs.length
    · have hj1 : decide ((j : Int) < (rs.length : Int)) = true := decide_eq_true (by omega)
      have hj2 : (j : Int) < (rs.length : Int) := by omega
      have hj0 : (0 : Int) ≤ (j : Int) := by omega
      obtain ⟨a, rfl, hcj⟩ := (HM.out.2.2.2.below HB9.out).at (k := j) (by rw [List.length_map]; exact hjl)
      rw [List.getElem_map] at hcj
      have hTj := allT_succ sn rs j hjl
      have hTl := allT_le sn rs (rs.length - (j + 1)) (j + 1) (by omega)
      have hmj := HRs.out.1 rs[j] (List.getElem_mem hjl)
      generalize rs[j] = rj at *
      obtain ⟨Ar, cr2, br⟩ := rj
      unfold RSl.v at hcj
      dsimp only at hcj hTj hmj
      have HSj := Lib.hid (rsize_any Ar cr2 br wr hmj)
      have hTlen : (allT sn rs (j + 1)).length = (allT sn rs j).length + (framedP br).length := by rw [hTj, List.length_append]
      have hsum : (allT sn rs j).length + (framedP br).length ≤ 1073741824 := by rw [hTlen] at hTl; exact Nat.le_trans hTl HRs.out.2
      have HTj := Lib.hid hTlen
      generalize (framedP br).length = F at *
      generalize (allT sn rs j).length = P9 at *
      clear hTj hTl hTlen
      go_wp2_with (go_at_call 54; refine HSj.out.mono ?_; rintro e w4 ⟨rfl, hb4⟩)
      go_roundg (rs.length - (j + 1))
      case measure => omega
      case rel => exact ⟨j + 1, by omega, by go_num, by rw [HTj.out]; go_num, HB9.out.trans (hb4.mono HB9.out.size)⟩
    · obtain rfl : j = rs.length := by omega
      have hj1 : decide ((rs.length : Int) < (rs.length : Int)) = false := decide_eq_false (by omega)
      rw [allT_all]
      have hTl := HRs.out.2
      obtain ⟨N, hN⟩ : ∃ N, (allP sn (rs.map RSl.bs)).length = N := ⟨_, rfl⟩
      rw [hN] at hTl ⊢
      have HN := Lib.hid hN
      clear hN
      have hbl := (HB9.out.block r hlt).trans HM.out.1.blk
      have k3' : wr.cell? ⟨r, 3, none⟩ = some (.int .i64 x.pages) := blk_cell hbl
      by_cases hg : 113 * x.pages < N
      · have hg1 : decide ((N : Int) > 113 * (x.pages : Int)) = true := decide_eq_true (by omega)
        have hg2 : decide (113 * (x.pages : Int) < (N : Int)) = true := decide_eq_true (by omega)
        have HR2 := Lib.hid (show R = (8, x) by rw [← HR.out]; unfold RL.lay; rw [HN.out, if_pos hg])
        have HF := Lib.hid hbl
        clear hbl
        go_wp2_with fail
        go_ret
        rw [HR2.out]
        exact ⟨rfl, .of_below HB9.out _, .inl ⟨(fun h => by cases h), ⟨HF.out⟩⟩⟩
      · have hg1 : decide ((N : Int) > 113 * (x.pages : Int)) = false := decide_eq_false (by omega)
        have hg2 : decide (113 * (x.pages : Int) < (N : Int)) = false := decide_eq_false (by omega)
        have HR2 := Lib.hid (show R = (0, RL.turned { x with snap := sn, recs := rs.map RSl.bs, sure := (rs.map RSl.bs).length, page := N / 113, fill := N % 113 }) by rw [← HR.out]; unfold RL.lay; rw [HN.out, if_neg hg])
        have HML : Hid (maxLen = 9223372036854775807) := rfl
        have hrb := HM.out.2.1.below HB9.out
        have HRB := Lib.hid (fun o => hrb.below ((Below.refl wr.heap.size wr).alloc (Nat.le_refl _) o))
        have HBl := Lib.hid hbl
        clear hrb hbl
        go_wp2_with (at_builtin; refine wpList_app _ rfl _ _ 29 rfl wr.heap.size 5 _ 1 1 Try.underlying29 info_u8 rfl (by decide) _ 0 _ rfl (World.ownsRow_lit wr _ 0 (Nat.le_refl _) (by decide) rfl) As sn.length cs (sn.map vb) rfl (by simp) (HRB.out _) (vbs_one sn) hAs ?c6 ?c7 ?c8 ?_)
        case c6 => rw [HML.out]; omega
        case c7 => omega
        case c8 => simp
        intro v w3 hown3 hg3 _
        have hbW3 : Below wr.heap.size wr w3 := ((Below.refl _ _).alloc (Nat.le_refl _) _).grown hg3 (by simp) (by intro k hk; cases hk; exact Nat.le_refl _)
        have ho3 : OB w3 wr.heap.size v sn := OB.mk hown3 (by simp) (by simp)
        obtain ⟨Av, cv, rfl, -⟩ := OB.form ho3
        have hrlt : r < wr.heap.size := blk_lt HBl.out
        have hb3 := (hbW3.block r hrlt).trans HBl.out
        have q0 : w3.cell? ⟨r, 0, none⟩ = some (.slice A0 n0 c0) := blk_cell hb3
        have q1 : w3.cell? ⟨r, 1, none⟩ = some (.slice A1 n1 c1) := blk_cell hb3
        have q2 : w3.cell? ⟨r, 2, none⟩ = some (.int .i64 x.sure) := blk_cell hb3
        have q4 : w3.cell? ⟨r, 4, none⟩ = some (.int .i64 x.page) := blk_cell hb3
        have q5 : w3.cell? ⟨r, 5, none⟩ = some (.int .i64 x.fill) := blk_cell hb3
        have fr : ∀ i, w3.frozen? ⟨r, i, none⟩ = false := fun i => blk_free hb3
        have fr0 := fr 0
        have fr1 := fr 1
        have fr2 := fr 2
        have fr4 := fr 4
        have fr5 := fr 5
        have HW3 := Lib.hid (⟨hbW3, ho3, hb3⟩ : _ ∧ _ ∧ _)
        have hd1 : ((N : Int)).tdiv 113 = ((N / 113 : Nat) : Int) := by rw [Int.tdiv_eq_ediv_of_nonneg (by omega)]; omega
        have hd2 : ((N : Int)).tmod 113 = ((N % 113 : Nat) : Int) := by rw [Int.tmod_eq_emod_of_nonneg (by omega)]; omega
        clear fr hbW3 ho3 hb3 hown3 hg3
        go_wp2_with fail
        rw [show ((N : Int) / 113) = ((N / 113 : Nat) : Int) by omega, show ((N : Int) % 113) = ((N % 113 : Nat) : Int) by omega]
        have s0 : (w3.setCell ⟨r, 0, none⟩ (.slice Av sn.length cv)).heap[r]? = some (.cells #[.slice Av sn.length cv, .slice A1 n1 c1, .int .i64 x.sure, .int .i64 x.pages, .int .i64 x.page, .int .i64 x.fill] 72 (0, 0)) := heap_setCell_same _ _ 0 _ _ (.slice Av sn.length cv) HW3.out.2.2
        have s1 : ((w3.setCell ⟨r, 0, none⟩ (.slice Av sn.length cv)).setCell ⟨r, 1, none⟩ (.slice A rs.length cr)).heap[r]? = some (.cells #[.slice Av sn.length cv, .slice A rs.length cr, .int .i64 x.sure, .int .i64 x.pages, .int .i64 x.page, .int .i64 x.fill] 72 (0, 0)) := heap_setCell_same _ _ 1 _ _ (.slice A rs.length cr) s0
        have s2 : (((w3.setCell ⟨r, 0, none⟩ (.slice Av sn.length cv)).setCell ⟨r, 1, none⟩ (.slice A rs.length cr)).setCell ⟨r, 2, none⟩ (.int .i64 rs.length)).heap[r]? = some (.cells #[.slice Av sn.length cv, .slice A rs.length cr, .int .i64 rs.length, .int .i64 x.pages, .int .i64 x.page, .int .i64 x.fill] 72 (0, 0)) := heap_setCell_same _ _ 2 _ _ (.int .i64 rs.length) s1
        have s3 : ((((w3.setCell ⟨r, 0, none⟩ (.slice Av sn.length cv)).setCell ⟨r, 1, none⟩ (.slice A rs.length cr)).setCell ⟨r, 2, none⟩ (.int .i64 rs.length)).setCell ⟨r, 4, none⟩ (.int .i64 (N / 113 : Nat))).heap[r]? = some (.cells #[.slice Av sn.length cv, .slice A rs.length cr, .int .i64 rs.length, .int .i64 x.pages, .int .i64 (N / 113 : Nat), .int .i64 x.fill] 72 (0, 0)) := heap_setCell_same _ _ 4 _ _ (.int .i64 (N / 113 : Nat)) s2
        have s4 : (((((w3.setCell ⟨r, 0, none⟩ (.slice Av sn.length cv)).setCell ⟨r, 1, none⟩ (.slice A rs.length cr)).setCell ⟨r, 2, none⟩ (.int .i64 rs.length)).setCell ⟨r, 4, none⟩ (.int .i64 (N / 113 : Nat))).setCell ⟨r, 5, none⟩ (.int .i64 (N % 113 : Nat))).heap[r]? = some (.cells #[.slice Av sn.length cv, .slice A rs.length cr, .int .i64 rs.length, .int .i64 x.pages, .int .i64 (N / 113 : Nat), .int .i64 (N % 113 : Nat)] 72 (0, 0)) := heap_setCell_same _ _ 5 _ _ (.int .i64 (N % 113 : Nat)) s3
        have hg5 := (Lib.grownBy_trans (Lib.grownBy_trans (Lib.grownBy_trans (Lib.grownBy_trans (Lib.grownBy_setCell w3 r 0 (.slice Av sn.length cv)) (Lib.grownBy_setCell _ r 1 (.slice A rs.length cr))) (Lib.grownBy_setCell _ r 2 (.int .i64 rs.length))) (Lib.grownBy_setCell _ r 4 (.int .i64 (N / 113 : Nat)))) (Lib.grownBy_setCell _ r 5 (.int .i64 (N % 113 : Nat))))
        have hN1 : N / 113 ≤ 1000000 := by omega
        have hoX := Only.of_grown hg5
        have hob : OB _ wr.heap.size (.slice Av sn.length cv) sn := own_only HW3.out.2.1 hoX (fun j hj => by have := (World.ownsRow.lt HW3.out.2.1 j hj).1; simp; omega)
        have HT := Lib.hid (rturn_any r _ _ _ _ _ _ _ ⟨s4⟩ hN1)
        have HX := Lib.hid (⟨hoX, hob⟩ : _ ∧ _)
        clear s0 s1 s2 s3 s4 hg5 hoX hob
        go_wp2_with fail
        refine HT.out.mono ?_
        rintro e w9 ⟨rfl, hc9, ho9⟩
        have hoE : Only w w9 [r] := ((Only.of_below HB9.out _).trans (Only.of_below HW3.out.1 _)).trans (HX.out.1.trans ho9)
        have hob9 : OB w9 w.heap.size (.slice Av sn.length cv) sn := OB.mono (show OB w9 wr.heap.size (.slice Av sn.length cv) sn from own_only HX.out.2 ho9 (fun j hj => by have := (World.ownsRow.lt HX.out.2 j hj).1; simp; omega)) HB9.out.size
        have HE := Lib.hid (⟨hc9, hoE, hob9⟩ : _ ∧ _ ∧ _)
        clear hc9 ho9 hoE hob9 HT HX
        go_wp2_with fail
        go_ret
        rw [HR2.out]
        refine ⟨rfl, HE.out.2.1, .inr ⟨rfl, _, ?_, HE.out.2.2⟩⟩
        unfold RL.turned
        dsimp only
        have h9 := HE.out.1
        by_cases hm : 0 < N % 113
        · rw [if_pos hm] at h9 ⊢
          rw [List.length_map]
          exact h9
        · rw [if_neg hm] at h9 ⊢
          dsimp only
          rw [List.length_map, show N % 113 = 0 by omega]
          exact h9
end Go.Proofs.Ytjfpanamkkdebaa
namespace Go.Proofs.Ytjfpanamkkdebaa
open Go.RowKit
set_option linter.unusedVariables false
set_option linter.unusedSimpArgs false
theorem RLog.forms {w : World} {r : Nat} {q : Option Nat} {x : RL} (h : RLog w r q x) : ∃ (A0 : Option Addr) (c0 : Nat) (A1 : Option Addr) (c1 : Nat) (rs : List RSl), RfC w r (.slice A0 x.snap.length c0) (.slice A1 rs.length c1) x.sure x.pages x.page x.fill ∧ OB w 0 (.slice A0 x.snap.length c0) x.snap ∧ (A0 = none → c0 = 0) ∧ RecsAt w (.slice A1 rs.length c1) rs ∧ rs.map RSl.bs = x.recs ∧ (Value.slice A1 rs.length c1).ownBlock = q := by
  obtain ⟨sv, rv, rs, hc, hs, hr, he, hq⟩ := h
  obtain ⟨A0, c0, rfl, _, hA0⟩ := OB.form hs
  obtain ⟨A1, c1, rfl, _⟩ := hr.1.form
  rw [List.length_map] at hc hr hq
  exact ⟨A0, c0, A1, c1, rs, hc, hs, hA0, hr, he, hq⟩
/-- lay of a log in memory. -/
theorem rlay_log (r : Nat) (q : Option Nat) (x : RL) (As : Option Addr) (cs : Nat) (sn : List UInt8) (rv2 : Value) (rs : List RSl) (w : World) (h : RLog w r q x) (hpg : x.pages ≤ 1000000) (hs : RB w As sn) (hAs : As = none → cs = 0) (hsm : sn.length ≤ 1073741824) (hrs : RecsAt w rv2 rs) (hrm : ∀ q ∈ rs, q.bs.length ≤ 1073741824) (hT : (allP sn (rs.map RSl.bs)).length ≤ 1073741824) :
    Calls Try.prog 64 #[.pointer (some ⟨r, 0, none⟩), .slice As sn.length cs, rv2] w fun e w' =>
      e = .returned (.int .i64 (x.lay sn (rs.map RSl.bs)).1) ∧ Only w w' [r] ∧ ∃ q', RLog w' r q' (x.lay sn (rs.map RSl.bs)).2 ∧ (q' = q ∨ q' = rv2.ownBlock) := by
  obtain ⟨A0, c0, A1, c1, rs0, hc, hs0, hA0, hr0, he0, hq0⟩ := h.forms
  have hno : ∀ j cs (e : TypeId) f, w.heap[j]? = some (.cells cs e f) → e ≠ 72 → j ∉ [r] := by
    intro j cs e f hj he hm
    rw [List.mem_singleton.1 hm, hc.blk] at hj
    injection hj with hj
    injection hj with _ hj
    exact he hj.symm
  have hlt := blk_lt hc.blk
  refine (rlay_any r _ _ x As cs sn rv2 rs w hc ⟨_, _, _, rfl⟩ ⟨_, _, _, rfl⟩ hpg hs hAs hsm hrs hrm hT).mono ?_
  rintro e w' ⟨rfl, ho, h'⟩
  refine ⟨rfl, ho, ?_⟩
  rcases h' with ⟨hne, hc'⟩ | ⟨h0, sv2, hc', hob⟩
  · refine ⟨q, ?_, .inl rfl⟩
    have hx : (x.lay sn (rs.map RSl.bs)).2 = x := by
      unfold RL.lay at hne ⊢
      split
      · rfl
      · rename_i hg; rw [if_neg hg] at hne; exact absurd rfl hne
    rw [hx]
    exact ⟨_, _, rs0, hc', own_only hs0 ho (fun j hj => by obtain ⟨cs, hcc⟩ := own_blk hs0 j hj; exact hno _ _ _ _ hcc (by decide)), hr0.only ho (fun j cs e f hj he => hno j cs e f hj (by rcases he with rfl | rfl <;> decide)), he0, hq0⟩
  · refine ⟨rv2.ownBlock, ⟨sv2, rv2, rs, hc', ?_, hrs.only ho (fun j cs e f hj he => hno j cs e f hj (by rcases he with rfl | rfl <;> decide)), ?_, rfl⟩, .inr rfl⟩
    · have e2 : (x.lay sn (rs.map RSl.bs)).2.snap = sn := by
        unfold RL.lay at h0 ⊢
        split
        · rename_i hg; rw [if_pos hg] at h0; cases h0
        · unfold RL.turned; dsimp only; split <;> rfl
      rw [e2]
      exact OB.mono hob (Nat.zero_le _)
    · unfold RL.lay at h0 ⊢
      split
      · rename_i hg; rw [if_pos hg] at h0; cases h0
      · unfold RL.turned; dsimp only; split <;> rfl
set_option maxHeartbeats 800000 in
theorem rsync_any (r : Nat) (q : Option Nat) (x : RL) (w : World) (h : RLog w r q x) (hp : x.page ≤ 1000000) :
    Calls Try.prog 42 #[.pointer (some ⟨r, 0, none⟩)] w fun e w' => e = .returned (.tuple #[]) ∧ RLog w' r q x.sync ∧ Only w w' [r] := by
  obtain ⟨A0, c0, A1, c1, rs0, hc, hs0, hA0, hr0, he0, hq0⟩ := h.forms
  have hno : ∀ j cs (e : TypeId) f, w.heap[j]? = some (.cells cs e f) → e ≠ 72 → j ∉ [r] := by
    intro j cs e f hj he hm
    rw [List.mem_singleton.1 hm, hc.blk] at hj
    injection hj with hj
    injection hj with _ hj
    exact he hj.symm
  have k1 : w.cell? ⟨r, 1, none⟩ = some (.slice A1 rs0.length c1) := blk_cell hc.blk
  have k2 : w.cell? ⟨r, 2, none⟩ = some (.int .i64 x.sure) := blk_cell hc.blk
  have f2 : w.frozen? ⟨r, 2, none⟩ = false := blk_free hc.blk
  have hc2 : (w.setCell ⟨r, 2, none⟩ (.int .i64 rs0.length)).heap[r]? = some (.cells #[.slice A0 x.snap.length c0, .slice A1 rs0.length c1, .int .i64 rs0.length, .int .i64 x.pages, .int .i64 x.page, .int .i64 x.fill] 72 (0, 0)) := heap_setCell_same _ _ 2 _ _ (.int .i64 rs0.length) hc.blk
  have HT := Lib.hid (rturn_any r _ _ _ _ _ _ _ ⟨hc2⟩ hp)
  have hoS := Only.of_grown (Lib.grownBy_setCell w r 2 (.int .i64 rs0.length))
  have HM := Lib.hid (⟨hc, hs0, hr0, he0, hq0, hoS, hno⟩ : _ ∧ _ ∧ _ ∧ _ ∧ _ ∧ _ ∧ _)
  clear h hc hs0 hr0 hc2 hoS hno
  go_enter Try.func42, Try.ntmps42
  go_wp2_with (go_at_call 65; refine HT.out.mono ?_; rintro e w4 ⟨rfl, hc4, ho4⟩)
  refine bodyPost_end (results_none rfl _ _ _) rfl ?_
  obtain ⟨hc, hs0, hr0, he0, hq0, hoS, hno⟩ := HM.out
  have hoE : Only w w4 [r] := hoS.trans ho4
  refine ⟨rfl, ⟨.slice A0 x.snap.length c0, .slice A1 rs0.length c1, rs0, ?_, ?_, hr0.only hoE (fun j cs e f hj he => hno j cs e f hj (by rcases he with rfl | rfl <;> decide)), ?_, hq0⟩, hoE⟩
  · have hl : rs0.length = x.recs.length := by rw [← he0, List.length_map]
    unfold RL.sync RL.turned
    dsimp only
    by_cases hf : 0 < x.fill
    · rw [if_pos hf] at hc4 ⊢
      rw [← hl]; exact hc4
    · rw [if_neg hf] at hc4 ⊢
      dsimp only
      rw [← hl, show x.fill = 0 by omega]
      exact hc4
  · have e2 : x.sync.snap = x.snap := by unfold RL.sync RL.turned; dsimp only; split <;> rfl
    rw [e2]
    exact own_only hs0 hoE (fun j hj => by obtain ⟨cs, hcc⟩ := own_blk hs0 j hj; exact hno _ _ _ _ hcc (by decide))
  · have e2 : x.sync.recs = x.recs := by unfold RL.sync RL.turned; dsimp only; split <;> rfl
    rw [e2]; exact he0
set_option maxHeartbeats 800000 in
theorem rsave_any (r : Nat) (q : Option Nat) (x : RL) (As : Option Addr) (cs : Nat) (sn : List UInt8) (w : World) (h : RLog w r q x) (hpg : x.pages ≤ 1000000) (hs : RB w As sn) (hAs : As = none → cs = 0) (hsm : sn.length ≤ 9223372036854775807) :
    Calls Try.prog 43 #[.pointer (some ⟨r, 0, none⟩), .slice As sn.length cs] w fun e w' =>
      e = .returned (.int .i64 (x.save sn).1) ∧ Only w w' [r] ∧ ∃ q', RLog w' r q' (x.save sn).2 ∧ (q' = q ∨ q' = none) := by
  by_cases hb : 262144 < sn.length
  · have h82 : decide ((sn.length : Int) > 262144) = true := decide_eq_true (by omega)
    have h83 : decide ((262144 : Int) < (sn.length : Int)) = true := decide_eq_true (by omega)
    have h84 : decide (262144 < sn.length) = true := decide_eq_true hb
    have hx : x.save sn = (1, x) := by unfold RL.save; rw [if_pos hb]
    rw [hx]
    have HL := Lib.hid h
    clear h hs hx
    go_enter Try.func43, Try.ntmps43
    go_wp2_with fail
    go_ret
    exact ⟨rfl, Only.refl _ _, q, HL.out, .inl rfl⟩
  · have h82 : decide ((sn.length : Int) > 262144) = false := decide_eq_false (by omega)
    have h83 : decide ((262144 : Int) < (sn.length : Int)) = false := decide_eq_false (by omega)
    have h84 : decide (262144 < sn.length) = false := decide_eq_false hb
    have hx : x.save sn = x.lay sn [] := by unfold RL.save; rw [if_neg hb]
    rw [hx]
    have HL := rlay_log r q x As cs sn (.slice none 0 0) [] w h hpg hs hAs (by omega) ⟨RowFrom.nil _ _, by simp⟩ (by simp) (by
      have := framedP_le sn (by omega)
      simp only [allP, List.map_nil, List.flatMap_nil, List.append_nil]
      omega)
    simp only [List.map_nil] at HL
    obtain ⟨R, hR⟩ : ∃ R, x.lay sn [] = R := ⟨_, rfl⟩
    rw [hR] at HL ⊢
    have HL := Lib.hid HL
    clear h hs hx hR
    go_enter Try.func43, Try.ntmps43
    go_wp2_with (go_at_call 64; refine HL.out.mono ?_; rintro e w4 ⟨rfl, ho, q', hq', hqq⟩)
    go_ret
    exact ⟨rfl, ho, q', hq', hqq⟩
end Go.Proofs.Ytjfpanamkkdebaa
namespace Go.Proofs.Ytjfpanamkkdebaa
open Go.RowKit
set_option linter.unusedVariables false
set_option linter.unusedSimpArgs false
def RL.zero (n : Nat) : RL := ⟨[], [], 0, (n - 2) / 2, 0, 0⟩
def RL.format (n : Nat) (sn : List UInt8) : Nat × RL := if 262144 < sn.length then (1, RL.zero n) else (RL.zero n).lay sn []
set_option maxHeartbeats 1600000 in
theorem rformat_any (n : Nat) (As : Option Addr) (cs : Nat) (sn : List UInt8) (w : World) (h8 : 8 ≤ n) (hn : n ≤ 4096) (hs : RB w As sn) (hAs : As = none → cs = 0) (hsm : sn.length ≤ 9223372036854775807) :
    Calls Try.prog 41 #[.int .i64 n, .slice As sn.length cs] w fun e w' => ∃ pv, e = .returned (.tuple #[pv, .int .i64 (RL.format n sn).1]) ∧ Below w.heap.size w w' ∧
      (((RL.format n sn).1 ≠ 0 ∧ pv = .pointer none) ∨ ((RL.format n sn).1 = 0 ∧ ∃ r, pv = .pointer (some ⟨r, 0, none⟩) ∧ w.heap.size ≤ r ∧ RLog w' r none (RL.format n sn).2)) := by
  have h81 : decide ((n : Int) < 8) = false := decide_eq_false (by omega)
  by_cases hb : 262144 < sn.length
  · have h82 : decide ((sn.length : Int) > 262144) = true := decide_eq_true (by omega)
    have h83 : decide ((262144 : Int) < (sn.length : Int)) = true := decide_eq_true (by omega)
    have h84 : decide (262144 < sn.length) = true := decide_eq_true hb
    have hx : RL.format n sn = (1, RL.zero n) := by unfold RL.format; rw [if_pos hb]
    rw [hx]
    clear hs hx
    go_enter Try.func41, Try.ntmps41
    go_wp2_with fail
    go_returns
    exact ⟨_, rfl, Below.refl _ _, .inl ⟨(fun h => by cases h), rfl⟩⟩
  · have h82 : decide ((sn.length : Int) > 262144) = false := decide_eq_false (by omega)
    have h83 : decide ((262144 : Int) < (sn.length : Int)) = false := decide_eq_false (by omega)
    have h84 : decide (262144 < sn.length) = false := decide_eq_false hb
    have hx : RL.format n sn = (RL.zero n).lay sn [] := by unfold RL.format; rw [if_neg hb]
    rw [hx]
    obtain ⟨P, hP⟩ : ∃ P, (n - 2) / 2 = P := ⟨_, rfl⟩
    have hPi : ((n : Int) - 2).tdiv 2 = (P : Int) := by rw [Int.tdiv_eq_ediv_of_nonneg (by omega)]; omega
    have hPi2 : ((n : Int) - 2) / 2 = (P : Int) := by omega
    have hz : RL.zero n = ⟨[], [], 0, P, 0, 0⟩ := by unfold RL.zero; rw [hP]
    have hal : (allP sn (([] : List RSl).map RSl.bs)).length ≤ 1073741824 := by
      have := framedP_le sn (by omega)
      simp only [allP, List.map_nil, List.flatMap_nil, List.append_nil]
      omega
    have hbA : Below w.heap.size w (w.alloc (.cells #[.slice none 0 0, .slice none 0 0, .int .i64 0, .int .i64 P, .int .i64 0, .int .i64 0] 72)) := (Below.refl _ _).alloc (Nat.le_refl _) _
    have hrl : RLog (w.alloc (.cells #[.slice none 0 0, .slice none 0 0, .int .i64 0, .int .i64 P, .int .i64 0, .int .i64 0] 72)) w.heap.size none (RL.zero n) := by
      rw [hz]
      exact ⟨.slice none 0 0, .slice none 0 0, [], ⟨heap_alloc_new w _⟩, World.ownsRow_nil _ _ _ _, ⟨RowFrom.nil _ _, by simp⟩, rfl, rfl⟩
    have HL := rlay_log w.heap.size none (RL.zero n) As cs sn (.slice none 0 0) [] _ hrl (by rw [hz]; dsimp only; omega) (hs.below hbA) hAs (by omega) ⟨RowFrom.nil _ _, by simp⟩ (by simp) hal
    simp only [List.map_nil] at HL
    obtain ⟨R, hR⟩ : ∃ R, (RL.zero n).lay sn [] = R := ⟨_, rfl⟩
    rw [hR] at HL ⊢
    have HL := Lib.hid HL
    have HB := Lib.hid hbA
    clear hs hx hR hrl hz hal hbA hP
    go_enter Try.func41, Try.ntmps41
    go_wp2_with fail
    refine HL.out.mono ?_
    rintro e w4 ⟨rfl, ho, q', hq', hqq⟩
    have hbE : Below w.heap.size w w4 := ((Only.of_below HB.out [w.heap.size]).trans ho).below (by simp) (Nat.le_refl _)
    have hqn : q' = none := by rcases hqq with rfl | rfl <;> rfl
    subst hqn
    have HE := Lib.hid (⟨hq', hbE⟩ : _ ∧ _)
    clear hq' hbE ho hqq HL
    by_cases hz : R.1 = 0
    · have hz1 : ((R.1 : Int) == 0) = true := by rw [hz]; rfl
      obtain ⟨e0, x0⟩ := R
      dsimp only at hz HE ⊢
      subst hz
      go_wp2_with fail
      go_returns
      exact ⟨_, rfl, HE.out.2, by first | exact ⟨_, rfl, Nat.le_refl _, HE.out.1⟩ | exact .inr ⟨rfl, _, rfl, Nat.le_refl _, HE.out.1⟩⟩
    · have hz2 : ¬ ((R.1 : Int) = 0) := by omega
      have hz3 : ((R.1 : Int) == 0) = false := by rw [beq_eq_false_iff_ne]; omega
      go_wp2_with fail
      go_returns
      exact ⟨_, rfl, HE.out.2, .inl ⟨hz, rfl⟩⟩
set_option maxHeartbeats 1600000 in
theorem ropen_any (r : Nat) (q : Option Nat) (x : RL) (w : World) (h : RLog w r q x) (hpg : x.pages ≤ 1000000) (hsm : x.snap.length ≤ 1073741824) (hrm : ∀ y ∈ x.recs, y.length ≤ 1073741824) (hT : (allP x.snap x.recs).length ≤ 1073741824) :
    Calls Try.prog 44 #[.pointer (some ⟨r, 0, none⟩)] w fun e w' => e = .returned (.int .i64 x.open.1) ∧ Only w w' [r] ∧ RLog w' r q x.open.2 := by
  obtain ⟨A0, c0, A1, c1, rs0, hc, hs0, hA0, hr0, he0, hq0⟩ := h.forms
  have k0 : w.drew.cell? ⟨r, 0, none⟩ = some (.slice A0 x.snap.length c0) := blk_cell hc.blk
  have k1 : w.drew.cell? ⟨r, 1, none⟩ = some (.slice A1 rs0.length c1) := blk_cell hc.blk
  have hbD : Below w.heap.size w w.drew := (Below.refl _ _).drew
  have HL := rlay_log r q x A0 c0 x.snap (.slice A1 rs0.length c1) rs0 w.drew (h.below hbD) hpg ((RB.of_own hs0).below hbD) hA0 hsm (hr0.below hbD) (fun y hy => hrm y.bs (by rw [← he0]; exact List.mem_map_of_mem hy)) (by rw [he0]; exact hT)
  rw [he0, hq0] at HL
  have hx : x.open = x.lay x.snap x.recs := rfl
  rw [hx]
  obtain ⟨R, hR⟩ : ∃ R, x.lay x.snap x.recs = R := ⟨_, rfl⟩
  rw [hR] at HL ⊢
  have HL2 : Calls Try.prog 64 #[.pointer (some ⟨r, 0, none⟩), .slice A0 x.snap.length c0, .slice A1 rs0.length c1] w.drew fun e w' => e = .returned (.int .i64 R.1) ∧ Only w w' [r] ∧ RLog w' r q R.2 ∧ w'.cell? ⟨r, 0, none⟩ = w'.cell? ⟨r, 0, none⟩ := by
    refine HL.mono ?_
    rintro e w' ⟨rfl, ho, q', hq', hqq⟩
    have : q' = q := by rcases hqq with rfl | rfl <;> rfl
    subst this
    exact ⟨rfl, (Only.of_below hbD _).trans ho, hq', rfl⟩
  have HL := Lib.hid HL2
  clear h hc hs0 hA0 hr0 he0 hq0 HL2 hx hR hbD
  go_enter Try.func44, Try.ntmps44
  go_wp2_with fail
  go_region_law (first
    | (go_simp; go_at_call 64; refine HL.out.mono ?_; rintro e w7 ⟨rfl, ho, hq, -⟩))
  all_goals go_wp2_with fail
  all_goals go_ret
  all_goals exact ⟨rfl, ho, hq⟩
end Go.Proofs.Ytjfpanamkkdebaa
namespace Go.Proofs.Ytjfpanamkkdebaa
open Go.RowKit
set_option linter.unusedVariables false
set_option linter.unusedSimpArgs false
theorem rvs_one (rs : List RSl) : ∀ u ∈ rs.map RSl.v, u.oneCell' = true := by
  intro u hu
  obtain ⟨x, _, rfl⟩ := List.mem_map.1 hu
  rfl
set_option maxRecDepth 100000 in
set_option maxHeartbeats 3200000 in
theorem rappend_any (r : Nat) (q : Option Nat) (x : RL) (As : Option Addr) (cs : Nat) (b : List UInt8) (w : World) (h : RLog w r q x) (hpg : x.pages ≤ 1000000) (hp : x.page ≤ 1000000) (hfl : x.fill ≤ 1000) (hfew : x.recs.length ≤ 1000000) (hs : RB w As b) (hAs : As = none → cs = 0) (hA : ∀ a, As = some a → b ≠ [] → a.block ≠ r) (hsm : b.length ≤ 9223372036854775807) :
    Calls Try.prog 30 #[.pointer (some ⟨r, 0, none⟩), .slice As b.length cs] w fun e w' =>
      e = .returned (.tuple #[.int .i64 (x.app b).1, .int .i64 (x.app b).2.1]) ∧ Only w w' [r] ∧ ∃ q', RLog w' r q' (x.app b).2.2 ∧ (q' = q ∨ ∃ j, q' = some j ∧ w.heap.size ≤ j) := by
  obtain ⟨A0, c0, A1, c1, rs0, hc, hs0, hA0, hr0, he0, hq0⟩ := h.forms
  have HM := Lib.hid (⟨h, hc, hs0, hr0, he0, hq0⟩ : _ ∧ _ ∧ _ ∧ _ ∧ _ ∧ _)
  obtain ⟨R, hR⟩ : ∃ R, x.app b = R := ⟨_, rfl⟩
  rw [hR]
  have HR := Lib.hid hR
  unfold RL.app at HR
  have hlt := blk_lt hc.blk
  have hblk := hc.blk
  clear h hc hs0 hr0 he0 hq0 hR
  by_cases hb0 : b.length = 0
  · have h80 : ((b.length : Int) == 0) = true := by rw [hb0]; rfl
    rw [if_pos (.inl hb0)] at HR
    clear hblk
    go_enter Try.func30, Try.ntmps30
    go_wp2_with fail
    go_returns
    rw [← HR.out]
    exact ⟨rfl, Only.refl _ _, q, HM.out.1, .inl rfl⟩
  · have h80 : ((b.length : Int) == 0) = false := by rw [beq_eq_false_iff_ne]; omega
    have h81 : ¬ ((b.length : Int) = 0) := by omega
    by_cases hbg : 262144 < b.length
    · have h82 : decide ((b.length : Int) > 262144) = true := decide_eq_true (by omega)
      have h83 : decide ((262144 : Int) < (b.length : Int)) = true := decide_eq_true (by omega)
      have h84 : decide (262144 < b.length) = true := decide_eq_true hbg
      rw [if_pos (.inr hbg)] at HR
      clear hblk
      go_enter Try.func30, Try.ntmps30
      go_wp2_with fail
      go_returns
      rw [← HR.out]
      exact ⟨rfl, Only.refl _ _, q, HM.out.1, .inl rfl⟩
    · have h82 : decide ((b.length : Int) > 262144) = false := decide_eq_false (by omega)
      have h83 : decide ((262144 : Int) < (b.length : Int)) = false := decide_eq_false (by omega)
      have h84 : decide (262144 < b.length) = false := decide_eq_false hbg
      rw [if_neg (by omega)] at HR
      have HSz := Lib.hid (rsize_any As cs b w (by omega))
      have hF := framedP_le b (by omega)
      obtain ⟨F, hFe⟩ : ∃ F, (framedP b).length = F := ⟨_, rfl⟩
      rw [hFe] at HSz HR hF
      clear hFe
      go_enter Try.func30, Try.ntmps30
      go_wp2_with fail
      refine HSz.out.mono ?_
      rintro e w1 ⟨rfl, hb1⟩
      have hbl1 := (hb1.block r hlt).trans hblk
      have k0 : w1.cell? ⟨r, 0, none⟩ = some (.slice A0 x.snap.length c0) := blk_cell hbl1
      have k1 : w1.cell? ⟨r, 1, none⟩ = some (.slice A1 rs0.length c1) := blk_cell hbl1
      have k3 : w1.cell? ⟨r, 3, none⟩ = some (.int .i64 x.pages) := blk_cell hbl1
      have k4 : w1.cell? ⟨r, 4, none⟩ = some (.int .i64 x.page) := blk_cell hbl1
      have k5 : w1.cell? ⟨r, 5, none⟩ = some (.int .i64 x.fill) := blk_cell hbl1
      have fr : ∀ i, w1.frozen? ⟨r, i, none⟩ = false := fun i => blk_free hbl1
      have fr1 := fr 1
      have fr4 := fr 4
      have fr5 := fr 5
      have HB1 := Lib.hid (⟨hb1, hbl1⟩ : _ ∧ _)
      have HS := Lib.hid hs
      clear fr hblk hbl1 hb1 HSz hs
      go_wp2_with fail
      go_region
      have hbD : Below w.heap.size w w1.drew := HB1.out.1.drew
      have hblD : w1.drew.heap[r]? = _ := HB1.out.2
      clear k0 k1 k3 k4 k5 fr1 fr4 fr5
      have k0 : w1.drew.cell? ⟨r, 0, none⟩ = some (.slice A0 x.snap.length c0) := blk_cell hblD
      have k1 : w1.drew.cell? ⟨r, 1, none⟩ = some (.slice A1 rs0.length c1) := blk_cell hblD
      have k4 : w1.drew.cell? ⟨r, 4, none⟩ = some (.int .i64 x.page) := blk_cell hblD
      have k5 : w1.drew.cell? ⟨r, 5, none⟩ = some (.int .i64 x.fill) := blk_cell hblD
      have fr : ∀ i, w1.drew.frozen? ⟨r, i, none⟩ = false := fun i => blk_free hblD
      have fr4 := fr 4
      generalize w1.drew = wD at *
      have HD := Lib.hid (⟨hbD, hblD⟩ : _ ∧ _)
      clear HB1 fr hbD hblD
      by_cases hg : ((x.pages : Int) - x.page) * 113 - x.fill < F
      · have hg1 : decide (((x.pages : Int) - x.page) * 113 - x.fill < F) = true := decide_eq_true hg
        rw [if_pos hg] at HR
        go_wp2_with fail
        go_returns
        rw [← HR.out]
        exact ⟨rfl, .of_below HD.out.1 _, q, HM.out.1.below HD.out.1, .inl rfl⟩
      · have hg1 : decide (((x.pages : Int) - x.page) * 113 - x.fill < F) = false := decide_eq_false hg
        rw [if_neg hg] at HR
        obtain ⟨D, hD⟩ : ∃ D, (x.fill + F) / 113 = D := ⟨_, rfl⟩
        obtain ⟨M, hM⟩ : ∃ M, (x.fill + F) % 113 = M := ⟨_, rfl⟩
        have hw1 : IntKind.i64.wrap ((x.fill : Int) + F) = (x.fill : Int) + F := by go_arith
        have hd1 : ((x.fill : Int) + F).tdiv 113 = (D : Int) := by rw [Int.tdiv_eq_ediv_of_nonneg (by omega)]; omega
        have hd2 : ((x.fill : Int) + F) / 113 = (D : Int) := by omega
        have hd3 : ((x.fill : Int) + F) % 113 = (M : Int) := by omega
        have hd4 : ((x.fill : Int) + F).tmod 113 = (M : Int) := by rw [Int.tmod_eq_emod_of_nonneg (by omega)]; omega
        have hDl : D ≤ 1000000000 := by omega
        have hw2 : IntKind.i64.wrap (D : Int) = (D : Int) := by go_arith
        have hw3 : IntKind.i64.wrap ((x.page : Int) + D) = (x.page : Int) + D := by go_arith
        rw [hD, hM] at HR
        have HDM := Lib.hid (⟨hD, hM⟩ : _ ∧ _)
        clear hD hM
        go_wp2_with fail
        go_region
        have hs4 : (wD.setCell ⟨r, 4, none⟩ (.int .i64 (x.page + D : Nat))).heap[r]? = some (.cells #[.slice A0 x.snap.length c0, .slice A1 rs0.length c1, .int .i64 x.sure, .int .i64 x.pages, .int .i64 (x.page + D : Nat), .int .i64 x.fill] 72 (0, 0)) := heap_setCell_same _ _ 4 _ _ (.int .i64 (x.page + D : Nat)) HD.out.2
        have hoS : Only w (wD.setCell ⟨r, 4, none⟩ (.int .i64 (x.page + D : Nat))).drew [r] := (Only.of_below HD.out.1 _).trans ((Only.of_grown (Lib.grownBy_setCell wD r 4 (.int .i64 (x.page + D : Nat)))).trans (Only.of_below (Below.refl _ _).drew _))
        rw [show ((x.page : Int) + (D : Int)) = ((x.page + D : Nat) : Int) by push_cast; rfl] at hw3 ⊢
        have hblE : (wD.setCell ⟨r, 4, none⟩ (.int .i64 (x.page + D : Nat))).drew.heap[r]? = _ := hs4
        generalize (wD.setCell ⟨r, 4, none⟩ (.int .i64 (x.page + D : Nat))).drew = wE at *
        clear k0 k1 k4 k5 fr4 hs4
        have hno : ∀ j cs (e : TypeId) f, w.heap[j]? = some (.cells cs e f) → e ≠ 72 → j ∉ [r] := by
          intro j cs e f hj he hm
          rw [List.mem_singleton.1 hm, HM.out.2.1.blk] at hj
          injection hj with hj
          injection hj with _ hj
          exact he hj.symm
        have hrsE := HM.out.2.2.2.1.only hoS (fun j cs e f hj he => hno j cs e f hj (by rcases he with rfl | rfl <;> decide))
        have hsE : OB wE 0 (.slice A0 x.snap.length c0) x.snap := own_only HM.out.2.2.1 hoS (fun j hj => by obtain ⟨cs, hcc⟩ := own_blk HM.out.2.2.1 j hj; exact hno _ _ _ _ hcc (by decide))
        have hbE : RB wE As b := RB.only HS.out hoS (fun a ha hne => by have := hA a ha hne; simpa using this)
        have k1 : wE.cell? ⟨r, 1, none⟩ = some (.slice A1 rs0.length c1) := blk_cell hblE
        have k5 : wE.cell? ⟨r, 5, none⟩ = some (.int .i64 x.fill) := blk_cell hblE
        have fr5 : wE.frozen? ⟨r, 5, none⟩ = false := blk_free hblE
        have HE := Lib.hid (⟨hoS, hblE, hrsE, hsE, hbE⟩ : _ ∧ _ ∧ _ ∧ _ ∧ _)
        clear hoS hblE hrsE hsE hbE hno HD
        have hw4 : IntKind.i64.wrap (M : Int) = (M : Int) := by go_arith
        have hMI : (x.fill : Int) + (F : Int) = ((x.fill + F : Nat) : Int) := by push_cast; rfl
        have hs5 : (wE.setCell ⟨r, 5, none⟩ (.int .i64 M)).heap[r]? = some (.cells #[.slice A0 x.snap.length c0, .slice A1 rs0.length c1, .int .i64 x.sure, .int .i64 x.pages, .int .i64 (x.page + D : Nat), .int .i64 M] 72 (0, 0)) := heap_setCell_same _ _ 5 _ _ (.int .i64 M) HE.out.2.1
        have hno : ∀ j cs (e : TypeId) f, wE.heap[j]? = some (.cells cs e f) → e ≠ 72 → j ∉ [r] := by
          intro j cs e f hj he hm
          rw [List.mem_singleton.1 hm, HE.out.2.1] at hj
          injection hj with hj
          injection hj with _ hj
          exact he hj.symm
        have hoT : Only wE (wE.setCell ⟨r, 5, none⟩ (.int .i64 M)) [r] := Only.of_grown (Lib.grownBy_setCell wE r 5 (.int .i64 M))
        have hrs5 := HE.out.2.2.1.only hoT (fun j cs e f hj he => hno j cs e f hj (by rcases he with rfl | rfl <;> decide))
        have hs05 : OB (wE.setCell ⟨r, 5, none⟩ (.int .i64 M)) 0 (.slice A0 x.snap.length c0) x.snap := own_only HE.out.2.2.2.1 hoT (fun j hj => by obtain ⟨cs, hcc⟩ := own_blk HE.out.2.2.2.1 j hj; exact hno _ _ _ _ hcc (by decide))
        have hrb5 : RB (wE.setCell ⟨r, 5, none⟩ (.int .i64 M)) As b := RB.only HE.out.2.2.2.2 hoT (fun a ha hne => by have := hA a ha hne; simpa using this)
        obtain ⟨A1', c1', ef, _, hA1, hlies⟩ := hrs5.1.form
        rw [List.length_map] at ef
        injection ef with ef1 ef2 ef3
        subst ef1 ef3
        have k15 : (wE.setCell ⟨r, 5, none⟩ (.int .i64 M)).cell? ⟨r, 1, none⟩ = some (.slice A1 rs0.length c1) := blk_cell hs5
        have hrl : rs0.length ≤ 1000000 := by have := congrArg List.length HM.out.2.2.2.2.1; rw [List.length_map] at this; omega
        have HE2 := Lib.hid (⟨HE.out.1.trans hoT, hs5, hrs5, hs05, hrb5, hlies⟩ : _ ∧ _ ∧ _ ∧ _ ∧ _ ∧ _)
        have HML : Hid (maxLen = 9223372036854775807) := rfl
        clear hs5 hno hoT hrs5 hs05 hrb5 hlies HE hMI
        go_wp2_with (at_builtin; refine wpList_app _ rfl (.tmp 59) (.tmp 63) 22 rfl wE.heap.size 29 _ 1 24 Try.underlying22 info_bs rfl (by decide) (.slice none 0 0) 0 [] rfl (World.ownsRow_nil _ _ _ _) A1 rs0.length c1 (rs0.map RSl.v) rfl (by simp) HE2.out.2.2.2.2.2 (rvs_one rs0) hA1 ?c6 ?c7 ?c8 ?_)
        case c6 => rw [HML.out]; omega
        case c7 => omega
        intro v6 w6 hown6 hg6 _
        have hw5s : (wE.setCell ⟨r, 5, none⟩ (.int .i64 M)).heap.size = wE.heap.size := by simp
        generalize wE.setCell ⟨r, 5, none⟩ (.int .i64 M) = w5 at *
        have hb56 : Below w5.heap.size w5 w6 := (Below.refl _ _).grown hg6 (Nat.le_refl _) (by intro k hk; cases hk)
        rw [← hw5s] at hown6
        have hrb6 := HE2.out.2.2.2.2.1.below hb56
        have hl5 := blk_lt HE2.out.2.1
        have hs6 := (hb56.block r hl5).trans HE2.out.2.1
        obtain ⟨A6, c6, rfl, -⟩ := own_form hown6
        have H6 := Lib.hid (⟨hb56, hown6, hs6⟩ : _ ∧ _ ∧ _)
        have HRB6 := Lib.hid (fun o => hrb6.below ((Below.refl w6.heap.size w6).alloc (Nat.le_refl _) o))
        clear hg6 hb56 hown6 hrb6 hs6 k15
        go_wp2_with (at_builtin; refine wpList_app _ rfl (.tmp 67) (.tmp 68) 29 rfl w6.heap.size 5 _ 1 1 Try.underlying29 info_u8 rfl (by decide) _ 0 _ rfl (World.ownsRow_lit w6 _ 0 (Nat.le_refl _) (by decide) rfl) As b.length cs (b.map vb) rfl (by simp) (HRB6.out _) (vbs_one b) hAs ?e6 ?e7 ?e8 ?_)
        case e6 => rw [HML.out]; omega
        case e7 => omega
        case e8 => simp
        intro v7 w7 hown7 hg7 _
        have hb67 : Below w6.heap.size w6 w7 := ((Below.refl _ _).alloc (Nat.le_refl _) _).grown hg7 (by simp) (by intro k hk; cases hk; exact Nat.le_refl _)
        have ho7 : OB w7 w6.heap.size v7 b := OB.mk hown7 (by simp) (by simp)
        obtain ⟨A7, c7, rfl, -⟩ := OB.form ho7
        have hb57 : Below w5.heap.size w5 (w7.alloc (.cells #[.slice A7 b.length c7] 29)) := (H6.out.1.trans (hb67.mono H6.out.1.size)).alloc (Nat.le_trans H6.out.1.size hb67.size) _
        have hown7' : (w7.alloc (.cells #[.slice A7 b.length c7] 29)).ownsRow w5.heap.size 29 1 (.slice A6 rs0.length c6) rs0.length (rs0.map RSl.v) := OS_below (OS_below H6.out.2.1 hb67) ((Below.refl _ _).alloc (Nat.le_refl _) _)
        have ho7' : OB (w7.alloc (.cells #[.slice A7 b.length c7] 29)) w6.heap.size (.slice A7 b.length c7) b := ho7.below ((Below.refl _ _).alloc (Nat.le_refl _) _)
        have H7 := Lib.hid (⟨hb57, hown7', ho7'⟩ : _ ∧ _ ∧ _)
        clear hown7 hg7 hb67 ho7 hb57 hown7' ho7' HRB6
        go_wp2_with (at_builtin; refine wpList_one rfl (.tmp 66) (.tmp 70) 22 rfl w5.heap.size 29 _ 24 Try.underlying22 info_bs rfl (.slice A6 rs0.length c6) rs0.length (rs0.map RSl.v) rfl H7.out.2.1 _ (.slice A7 b.length c7) rfl (tmp_here _ _ _) rfl ?d6 ?d7 ?d8 ?_)
        case d6 => rw [HML.out]; omega
        case d7 => omega
        case d8 => exact H7.out.1.size
        intro g8 cap8 w8 hown8 hg8 hor8 hlt8
        have hb58 : Below w5.heap.size w5 w8 := H7.out.1.grown hg8 H7.out.1.size (fun j hj => (World.ownsRow.lt H7.out.2.1 j hj).1)
        have hs8 := (hb58.block r hl5).trans HE2.out.2.1
        have hrow8 := own_blk H7.out.2.1
        have ho78 : OB w8 w6.heap.size (.slice A7 b.length c7) b := own_kept2 H7.out.2.2 hg8 (fun j hj e => by
          obtain ⟨cs1, hc1⟩ := hrow8 j e
          obtain ⟨cs2, hc2⟩ := own_blk H7.out.2.2 j hj
          rw [hc1] at hc2
          injection hc2 with hc2
          injection hc2 with _ hc2
          exact absurd hc2 (by decide))
        have k18 : w8.cell? ⟨r, 1, none⟩ = some (.slice A1 rs0.length c1) := blk_cell hs8
        have f18 : w8.frozen? ⟨r, 1, none⟩ = false := blk_free hs8
        have hs9 : (w8.setCell ⟨r, 1, none⟩ (.slice (some ⟨g8, 0, none⟩) (rs0.length + 1) cap8)).heap[r]? = some (.cells #[.slice A0 x.snap.length c0, .slice (some ⟨g8, 0, none⟩) (rs0.length + 1) cap8, .int .i64 x.sure, .int .i64 x.pages, .int .i64 (x.page + D : Nat), .int .i64 M] 72 (0, 0)) := heap_setCell_same _ _ 1 _ _ (.slice (some ⟨g8, 0, none⟩) (rs0.length + 1) cap8) hs8
        have k19 : (w8.setCell ⟨r, 1, none⟩ (.slice (some ⟨g8, 0, none⟩) (rs0.length + 1) cap8)).cell? ⟨r, 1, none⟩ = some (.slice (some ⟨g8, 0, none⟩) (rs0.length + 1) cap8) := blk_cell hs9
        have H8 := Lib.hid (⟨hb58, hown8, ho78, hs8, hs9⟩ : _ ∧ _ ∧ _ ∧ _ ∧ _)
        clear hb58 hown8 ho78 hs8 hs9 hg8 hor8 hrow8
        go_wp2_with fail
        go_returns
        rw [← HR.out]
        obtain ⟨hb58, hown8, ho78, hs8, hs9⟩ := H8.out
        have hoS : Only w8 (w8.setCell ⟨r, 1, none⟩ (.slice (some ⟨g8, 0, none⟩) (rs0.length + 1) cap8)) [r] := Only.of_grown (Lib.grownBy_setCell w8 r 1 _)
        have hno : ∀ j cs (e : TypeId) f, w8.heap[j]? = some (.cells cs e f) → e ≠ 72 → j ∉ [r] := by
          intro j cs e f hj he hm
          rw [List.mem_singleton.1 hm, hs8] at hj
          injection hj with hj
          injection hj with _ hj
          exact he hj.symm
        have ob : ∀ B v y, OB w8 B v y → OB (w8.setCell ⟨r, 1, none⟩ (.slice (some ⟨g8, 0, none⟩) (rs0.length + 1) cap8)) B v y := fun B v y h => own_only h hoS (fun j hj => by obtain ⟨cs, hcc⟩ := own_blk h j hj; exact hno _ _ _ _ hcc (by decide))
        have hlr : rs0.length = x.recs.length := by rw [← HM.out.2.2.2.2.1, List.length_map]
        have hg8w : w5.heap.size ≤ g8 := by rw [hw5s]; exact (World.ownsRow.lt hown8 g8 rfl).1
        refine ⟨by rw [← hlr]; push_cast; rfl, (HE2.out.1.trans (Only.of_below hb58 _)).trans hoS, some g8, ⟨.slice A0 x.snap.length c0, .slice (some ⟨g8, 0, none⟩) (rs0.length + 1) cap8, rs0 ++ [(⟨A7, c7, b⟩ : RSl)], ⟨hs9⟩, ob _ _ _ (HE2.out.2.2.2.1.below hb58), ⟨?_, ?_⟩, by rw [List.map_append, HM.out.2.2.2.2.1]; rfl, rfl⟩, .inr ⟨g8, rfl, Nat.le_trans HE2.out.1.size hg8w⟩⟩
        · rw [List.map_append]
          exact (RowFrom.of_own hown8).only hoS (fun j cs f hj => hno _ _ _ _ hj (by decide))
        · intro y hy
          rcases List.mem_append.1 hy with hy | hy
          · exact ob _ _ _ (OB.below (HE2.out.2.2.1.2 y hy) hb58)
          · rw [List.mem_singleton.1 hy]
            exact OB.mono (ob _ _ _ ho78) (Nat.zero_le _)
end Go.Proofs.Ytjfpanamkkdebaa
namespace Go.Proofs.Ytjfpanamkkdebaa
open Go.RowKit
set_option linter.unusedVariables false
set_option linter.unusedSimpArgs false
theorem str_inj {a b : List UInt8} : (str a = str b) ↔ a = b := by
  constructor
  · intro h
    have := congrArg (fun s => s.data.toList) h
    simpa [str_toList] using this
  · rintro rfl; rfl
/-- Records that may be read. -/
def RecsR (w : World) (v : Value) (rs : List RSl) : Prop := ∃ A c, v = .slice A rs.length c ∧ rs.length ≤ c ∧ (A = none → c = 0) ∧ Lies w A (rs.map RSl.v) ∧ ∀ r ∈ rs, RB w r.A r.bs
theorem RecsAt.read {w : World} {v : Value} {rs : List RSl} (h : RecsAt w v rs) : RecsR w v rs := by
  obtain ⟨A, c, hv, hc, hA, hli⟩ := h.1.form
  rw [List.length_map] at hv hc
  exact ⟨A, c, hv, hc, hA, hli, fun r hr => RB.of_own (h.2 r hr)⟩
theorem RecsR.below {w w' : World} {v : Value} {rs : List RSl} (h : RecsR w v rs) (hb : Below w.heap.size w w') : RecsR w' v rs := by
  obtain ⟨A, c, hv, hc, hA, hli, hr⟩ := h
  exact ⟨A, c, hv, hc, hA, hli.below hb, fun r hm => Lies.below (hr r hm) hb⟩
set_option maxRecDepth 100000 in
set_option maxHeartbeats 3200000 in
theorem same_rd (v1 v2 : Value) (rs qs : List RSl) (w : World) (h1 : RecsR w v1 rs) (h2 : RecsR w v2 qs) (hl : rs.length ≤ 1000000) (hl2 : qs.length ≤ 1000000) :
    Calls Try.prog 16 #[v1, v2] w fun e w' => e = .returned (.bool (decide (rs.map RSl.bs = qs.map RSl.bs))) ∧ Below w.heap.size w w' := by
  obtain ⟨A, c, rfl, hc, hA, hli, h1⟩ := h1
  obtain ⟨B, d, rfl, hd, hB, hlj, h2⟩ := h2
  obtain ⟨T, hT⟩ : ∃ T, decide (rs.map RSl.bs = qs.map RSl.bs) = T := ⟨_, rfl⟩
  rw [hT]
  have HT := Lib.hid hT
  have H1 := Lib.hid (⟨hli, h1⟩ : _ ∧ _)
  have H2 := Lib.hid (⟨hlj, h2⟩ : _ ∧ _)
  clear hT hli hlj h1 h2
  by_cases hn : rs.length = qs.length
  · have hq : ((rs.length : Int) != (qs.length : Int)) = false := by simp; omega
    have hq2 : ((rs.length : Int) == (qs.length : Int)) = true := by simp; omega
    have HN := Lib.hid hn
    clear hn
    go_enter Try.func16, Try.ntmps16
    go_wp2_with fail
    go_loopg [13] rs.length (fun r s13 wr => ∃ j : Nat, j + r = rs.length ∧ s13 = .int .i64 j ∧ (rs.take j).map RSl.bs = (qs.take j).map RSl.bs ∧ Below w.heap.size w wr)
    case atStart => exact ⟨0, by omega, rfl, rfl, Below.refl _ _⟩
    case round =>
      obtain ⟨j, hj, rfl, hpre, hb⟩ := hrel
      by_cases hjl : j < rs.length
      · have hj1 : decide ((j : Int) < (rs.length : Int)) = true := decide_eq_true (by omega)
        have hj2 : (j : Int) < (rs.length : Int) := by omega
        have hj3 : (j : Int) < (qs.length : Int) := by have := HN.out; omega
        have hj0 : (0 : Int) ≤ (j : Int) := by omega
        have hjq : j < qs.length := by have := HN.out; omega
        have hbd := hb.drew
        obtain ⟨a, rfl, hcj⟩ := (H1.out.1.below hbd).at (k := j) (by rw [List.length_map]; exact hjl)
        obtain ⟨b, rfl, hcb⟩ := (H2.out.1.below hbd).at (k := j) (by rw [List.length_map]; exact hjq)
        rw [List.getElem_map] at hcj hcb
        have ho1 := Lies.below (H1.out.2 rs[j] (List.getElem_mem hjl)) hbd
        have ho2 := Lies.below (H2.out.2 qs[j] (List.getElem_mem hjq)) hbd
        have ht1 : (rs.take (j + 1)).map RSl.bs = (rs.take j).map RSl.bs ++ [rs[j].bs] := by rw [List.take_succ_eq_append_getElem hjl, List.map_append]; rfl
        have ht2 : (qs.take (j + 1)).map RSl.bs = (qs.take j).map RSl.bs ++ [qs[j].bs] := by rw [List.take_succ_eq_append_getElem hjq, List.map_append]; rfl
        have hne : rs[j].bs ≠ qs[j].bs → rs.map RSl.bs ≠ qs.map RSl.bs := by
          intro h e
          have := congrArg (fun l => l[j]?) e
          simp [hjl, hjq] at this
          exact h this
        generalize rs[j] = rj at *
        generalize qs[j] = qj at *
        obtain ⟨rA, rc, rb⟩ := rj
        obtain ⟨qA, qc, qb⟩ := qj
        unfold RSl.v at hcj hcb
        dsimp only at hcj hcb ho1 ho2 ht1 ht2 hne
        have kc1 := RB.str (P := Try.prog) (w := wr.drew) (src := 29) (dst := 9) Try.underlying29 Try.underlying5 Try.underlying9 ho1 rb.length rc rfl
        have kc2 := RB.str (P := Try.prog) (w := wr.drew) (src := 29) (dst := 9) Try.underlying29 Try.underlying5 Try.underlying9 ho2 qb.length qc rfl
        have HP := Lib.hid (⟨hpre, ht1, ht2, hne, hbd⟩ : _ ∧ _ ∧ _ ∧ _ ∧ _)
        clear hpre ht1 ht2 hne ho1 ho2 hb hbd
        go_wp2_with fail
        by_cases heq : rb = qb
        · subst heq
          go_region
          all_goals
            go_wp2_with fail
            go_roundg (rs.length - (j + 1))
            case measure => omega
            case rel => exact ⟨j + 1, by omega, by go_num, by rw [HP.out.2.1, HP.out.2.2.1, HP.out.1], HP.out.2.2.2.2⟩
        · have hs1 : ¬ (str rb = str qb) := fun e => heq (str_inj.1 e)
          have hs2 : ((str rb).toList == (str qb).toList) = false := by rw [str_toList', str_toList', beq_eq_false_iff_ne]; exact heq
          have hs3 : ((str rb).toList != (str qb).toList) = true := by rw [str_toList', str_toList', bne_iff_ne]; exact heq
          have HF := Lib.hid (show T = false by rw [← HT.out]; exact decide_eq_false (HP.out.2.2.2.1 heq))
          go_region
          all_goals
            go_wp2_with fail
            go_ret
            rw [HF.out]
            exact ⟨rfl, HP.out.2.2.2.2⟩
      · have hjr : j = rs.length := by omega
        subst hjr
        have hj1 : decide ((rs.length : Int) < (rs.length : Int)) = false := decide_eq_false (by omega)
        have HF := Lib.hid (show T = true by
          rw [← HT.out]
          have e2 : qs.take rs.length = qs := by rw [HN.out, List.take_length]
          rw [List.take_length, e2] at hpre
          exact decide_eq_true hpre)
        go_wp2_with fail
        go_ret
        rw [HF.out]
        exact ⟨rfl, hb⟩
  · have hq : ((rs.length : Int) != (qs.length : Int)) = true := by simp; omega
    have hq2 : ((rs.length : Int) == (qs.length : Int)) = false := by rw [beq_eq_false_iff_ne]; omega
    have hq3 : ¬ ((rs.length : Int) = (qs.length : Int)) := by omega
    have HF := Lib.hid (show T = false by rw [← HT.out]; exact decide_eq_false (fun e => hn (by have := congrArg List.length e; simpa using this)))
    go_enter Try.func16, Try.ntmps16
    go_wp2_with fail
    go_ret
    rw [HF.out]
    exact ⟨rfl, Below.refl _ _⟩
theorem same_any (v1 v2 : Value) (rs qs : List RSl) (w : World) (h1 : RecsAt w v1 rs) (h2 : RecsAt w v2 qs) (hl : rs.length ≤ 1000000) (hl2 : qs.length ≤ 1000000) :
    Calls Try.prog 16 #[v1, v2] w fun e w' => e = .returned (.bool (decide (rs.map RSl.bs = qs.map RSl.bs))) ∧ Below w.heap.size w w' :=
  same_rd v1 v2 rs qs w h1.read h2.read hl hl2
end Go.Proofs.Ytjfpanamkkdebaa
namespace Go.Proofs.Ytjfpanamkkdebaa
open Go.RowKit
set_option linter.unusedVariables false
set_option linter.unusedSimpArgs false
set_option maxRecDepth 100000 in
theorem fresh_kpt (n i : Nat) : (fresh n).kpt i = List.replicate 128 0 := by
  have e : (fresh n).kept.getD i [] = [] := by
    unfold fresh
    dsimp only
    rw [List.getD_eq_getElem?_getD, List.getElem?_replicate]
    split <;> rfl
  unfold Dsk.kpt
  rw [e]
  rfl
set_option maxRecDepth 100000 in
theorem zero_pgs : Pgs 0 (List.replicate 128 0) := by
  refine ⟨by decide, by decide, by decide, by decide, by decide, by decide⟩
theorem fresh_pg (n : Nat) : PgOk 0 (fresh n) := ⟨fun i => by rw [fresh_kpt]; exact zero_pgs, fun i s h => by cases h⟩
theorem fresh_sheet (n : Nat) (i : Nat) (h : i < n) : ((fresh n).sheet (i : Nat)).epoch = 0 := by
  rw [(fresh n).sheet_now i rfl (by simpa [fresh] using h)]
  show (lookP ((fresh n).cur i)).epoch = 0
  rw [Dsk.cur_none rfl, fresh_kpt, zero_pgs.epoch]
  rfl
theorem fresh_top (n : Nat) (h : 8 ≤ n) : (fresh n).topS 2 = 0 := by
  unfold Dsk.topS Dsk.topS Dsk.topS
  rw [fresh_sheet n 0 (by omega), fresh_sheet n 1 (by omega)]
  rfl
theorem fresh_dev (n : Nat) (h1 : 8 ≤ n) (h2 : n ≤ 4096) : Dev0 0 (fresh n) 1 0 1 :=
  ⟨fresh_ok (by omega) h2, by simpa [fresh] using h1, by decide, by decide, by decide, fresh_pg n, rfl, rfl, by rw [fresh_kpt, zero_pgs.epoch]; decide⟩
theorem fresh_room (n : Nat) : (fresh n).room = (n - 2) / 2 := by unfold Dsk.room fresh; simp
theorem format_new (n : Nat) (h1 : 8 ≤ n) (h2 : n ≤ 4096) (sn : List UInt8) :
    (formatP (fresh n) sn).e = (RL.format n sn).1 ∧ ((RL.format n sn).1 = 0 → LInv 1 (formatLg (fresh n) sn) ∧ Rel (formatLg (fresh n) sn) (RL.format n sn).2 ∧ (formatLg (fresh n) sn).d.bound = false ∧ (formatLg (fresh n) sn).d.kept.length = n) := by
  have hl : (fresh n).kept.length = n := by simp [fresh]
  unfold RL.format
  by_cases hs : 262144 < sn.length
  · rw [if_pos hs]
    refine ⟨?_, fun h => by cases h⟩
    unfold formatP
    rw [if_pos (.inr hs)]
  · have hf : formatP (fresh n) sn = layP 1 0 1 (fresh n) sn [] := by
      unfold formatP
      rw [if_neg (by rw [hl]; omega), fresh_top n h1]
      rfl
    have hroom := fresh_room n
    have hr0 : 0 < (fresh n).room := by rw [hroom]; omega
    have hg0 := grow_zero (allP sn []).length (fresh n).room hr0
    rw [if_neg hs]
    unfold RL.lay RL.zero
    dsimp only
    rw [← hroom]
    by_cases hg : 113 * (fresh n).room < (allP sn []).length
    · rw [if_pos hg]
      refine ⟨?_, fun h => by cases h⟩
      rw [decide_eq_false (by omega)] at hg0
      rw [hf]
      unfold layP
      rw [if_pos hg0]
    · rw [if_neg hg]
      rw [decide_eq_true (by omega)] at hg0
      obtain ⟨e2, d1, ho⟩ := lay_main (fresh_dev n h1 h2) (by decide) rfl (fun i _ => rfl) sn [] hg0
      have he : (layP 1 0 1 (fresh n) sn []).e = 0 := by
        rcases ho.out with ⟨_, h2, _⟩ | ⟨_, _, _, _, _, ⟨_, h2, _⟩ | ⟨h1, _⟩⟩
        · cases h2
        · cases h2
        · exact h1
      have hd := lay_done (fresh_dev n h1 h2) (by decide) sn [] (by omega) (by simp) ho he
      have hL : formatLg (fresh n) sn = ⟨1 - 1, (layP 1 0 1 (fresh n) sn []).ep, 1 - 1, (layP 1 0 1 (fresh n) sn []).pg, [], (layP 1 0 1 (fresh n) sn []).d, sn, [], ([] : List (List UInt8)).length⟩ := by
        unfold formatLg
        rw [hf]
        rfl
      have hpg := lay_pg 1 0 1 (fresh n) sn [] he
      have ht := turned_at (allP sn []).length ⟨sn, [], ([] : List (List UInt8)).length, (fresh n).room, 0, 0⟩
      dsimp only at ht ⊢
      rw [ht]
      refine ⟨by rw [hf]; exact he, fun _ => ?_⟩
      rw [hL]
      exact ⟨hd.1, ⟨rfl, rfl, rfl, by rw [room_len ho.len], by rw [hpg], rfl⟩, by rw [hd.2.1]; rfl, by rw [ho.len]; exact hl⟩
end Go.Proofs.Ytjfpanamkkdebaa
