/- The walk of the law of lists that rise. -/
import Derived.Test.YtcdggfojmfefkaaCoH
namespace Go.Proofs.Ytcdggfojmfefkaa
open Go.RowKit
set_option linter.unusedVariables false
set_option linter.unusedSimpArgs false
theorem below_drewN {B : Nat} {a w : World} (h : Below B a w) (n : Nat) : Below B a (w.drewN n) := h.trans ⟨rfl, rfl, rfl, Nat.le_refl _, fun _ _ => rfl⟩
theorem lies_past {w0 w w' : World} {A : Option Addr} {vs : List Value} {g : Nat} (h0 : Lies w0 A vs) (hg : w0.heap.size ≤ g) (h : Lies w A vs) (hw : w.grownBy w' (some g)) : Lies w' A vs := by
  intro k v hk
  obtain ⟨a, ha, hc0⟩ := h0 k v hk
  obtain ⟨a', ha', hc⟩ := h k v hk
  rw [ha] at ha'
  cases ha'
  have hlt : (a.add k).block < w0.heap.size := World.block_lt_of_cell? w0 _ hc0
  exact ⟨a, ha, hw.cell hc (fun e => by injection e; omega)⟩
set_option maxHeartbeats 800000 in
/-- The library's Equal of the same whole numbers. -/
theorem iequal_any (A B : Option Addr) (c d : Nat) (l : List Int) (w : World) (hlc : l.length ≤ c) (hld : l.length ≤ d) (hr : Lies w A (l.map (Value.int .i64))) (hs : Lies w B (l.map (Value.int .i64))) (hm : l.length ≤ 1000) :
    Calls Try.prog 28 #[.slice A l.length c, .slice B l.length d] w fun e w' => e = .returned (.bool true) ∧ Below w.heap.size w w' := by
  go_enter Try.func28, Try.ntmps28
  go_wp2
  go_loopg [13] l.length (fun r i wr => ∃ j : Nat, j + r = l.length ∧ i = .int .i64 j ∧ Below w.heap.size w wr)
  case atStart => exact ⟨0, by omega, rfl, Below.refl _ _⟩
  case round =>
    obtain ⟨j, hj, rfl, hb⟩ := hrel
    by_cases hjk : j < l.length
    · obtain ⟨a, rfl, hc⟩ := (hr.below hb).at (k := j) (by simpa using hjk)
      obtain ⟨b, rfl, hc2⟩ := (hs.below hb).at (k := j) (by simpa using hjk)
      rw [List.getElem_map] at hc hc2
      generalize l[j] = x at hc hc2
      have hj1 : ((j : Nat) : Int) < l.length := by omega
      go_wp2_with fail
      go_quiet (fail)
      go_wp2
      go_roundg (l.length - (j + 1))
      case measure => omega
      case rel => exact ⟨j + 1, by omega, by go_num, below_drewN hb _⟩
    · obtain rfl : j = l.length := by omega
      go_wp2
      go_returns
      exact ⟨rfl, hb⟩
/-- The numbers that the law takes. -/
def pick (r : List Int) (x : Int) : List Int := if r.length < 100 ∧ 0 ≤ x ∧ lastOf (-1) r < x then r ++ [x] else r
def picked (l : List Int) : List Int := l.foldl pick []
theorem picked_snoc {l : List Int} {j : Nat} (hj : j < l.length) : picked (l.take (j + 1)) = pick (picked (l.take j)) l[j] := by
  rw [picked, picked, List.take_succ_eq_append_getElem hj, List.foldl_append]; rfl
theorem Up.snoc {r : List Int} {x : Int} (h : Up r) (hx : lastOf (-1) r < x) : Up (r ++ [x]) := by
  intro j hj
  rw [List.length_append, List.length_singleton] at hj
  by_cases hjr : j < r.length
  · rw [List.take_append_of_le_length (by omega), List.getElem_append_left hjr]
    exact h j hjr
  · obtain rfl : j = r.length := by omega
    rw [List.take_append_of_le_length (Nat.le_refl _), List.take_length, List.getElem_append_right (Nat.le_refl _)]
    simpa using hx
/-- What is so of the numbers taken. -/
structure Took (r : List Int) : Prop where
  up : Up r
  short : r.length ≤ 100
  ge : ∀ z ∈ r, 0 ≤ z ∧ z ≤ 9223372036854775807
theorem took_pick {r : List Int} {x : Int} (h : Took r) (hx : x ≤ 9223372036854775807) : Took (pick r x) := by
  unfold pick
  split
  · rename_i hp
    refine ⟨h.up.snoc hp.2.2, by rw [List.length_append, List.length_singleton]; omega, ?_⟩
    intro z hz
    rcases List.mem_append.1 hz with hz | hz
    · exact h.ge z hz
    · cases List.mem_singleton.1 hz
      exact ⟨hp.2.1, hx⟩
  · exact h
theorem took_nil : Took [] := ⟨fun j h => absurd h (Nat.not_lt_zero j), by decide, fun z hz => absurd hz (List.not_mem_nil)⟩
theorem up_rise {r : List Int} (h : Up r) : rise r = r := by
  have hl := rise_length_le r
  rcases Nat.lt_or_ge (rise r).length r.length with hlt | hge
  · have := (rise_step (l := r) (Nat.le_refl _) hlt).2 (h _ hlt)
    omega
  · rw [rise_eq_take r, List.take_of_length_le hge]
theorem Up.le_last {r : List Int} (h : Up r) : ∀ z ∈ r, z ≤ lastOf (-1) r := by
  have key : ∀ k, k ≤ r.length → ∀ z ∈ r.take k, z ≤ lastOf (-1) (r.take k) := by
    intro k
    induction k with
    | zero => intro _ z hz; simp at hz
    | succ k ih =>
      intro hk z hz
      have h1 := h k (by omega)
      rw [List.take_succ_eq_append_getElem (show k < r.length by omega), lastOf_snoc] at *
      rcases List.mem_append.1 hz with hz | hz
      · have := ih (by omega) z hz; omega
      · cases List.mem_singleton.1 hz; exact Int.le_refl _
  have := key r.length (Nat.le_refl _)
  rwa [List.take_length] at this
theorem lastOf_getElem {r : List Int} (d : Int) (h : 0 < r.length) : lastOf d r = r[r.length - 1] := by
  rw [lastOf, List.getLast?_eq_getElem?, List.getElem?_eq_getElem (by omega)]; rfl
set_option maxHeartbeats 1600000 in
theorem coderLists_walk (B : Option Addr) (d : Nat) (l : List Int) (A : Option Addr) (c : Nat) (bs : List UInt8) (w : World) (hs : Lies w B (l.map (Value.int .i64))) (hB : B = none → d = 0) (hld : l.length ≤ d) (hlm : l.length * 8 ≤ 140737488351232) (hwl : ∀ z ∈ l, (Lit.int .i64 z).wf = true)
    (hr : RB w A bs) (hA : A = none → c = 0) (hlc : bs.length ≤ c) (hm : bs.length ≤ 140737488351232) :
    Calls Try.prog 7 #[.slice B l.length d, .slice A bs.length c] w fun e w' => e = .returned (.bool true) ∧ Below w.heap.size w w' := by
  have HML : Hid (maxLen = 9223372036854775807) := rfl
  have hl : ∀ z ∈ l, -9223372036854775808 ≤ z ∧ z ≤ 9223372036854775807 := fun z hz => wf_i64 (hwl z hz)
  have HL := Lib.hid hl
  clear hl hwl
  go_enter Try.func7, Try.ntmps7
  go_wp2
  go_loopg [5, 12] l.length (fun r v i wr => ∃ j : Nat, j + r = l.length ∧ i = .int .i64 j ∧ OI wr w.heap.size v (picked (l.take j)) ∧ Took (picked (l.take j)) ∧ Below w.heap.size w wr)
  case atStart => exact ⟨0, by omega, rfl, World.ownsRow_nil _ _ _ _, took_nil, Below.refl _ _⟩
  case round =>
    obtain ⟨j, hj, rfl, ho, ht, hb⟩ := hrel
    by_cases hjk : j < l.length
    · obtain ⟨a, rfl, hc⟩ := (hs.below hb).at (k := j) (by simpa using hjk)
      rw [List.getElem_map] at hc
      have hxb := HL.out _ (List.getElem_mem hjk)
      have HP := Lib.hid (picked_snoc hjk)
      have hpd : pick (picked (l.take j)) l[j] = if (picked (l.take j)).length < 100 ∧ 0 ≤ l[j] ∧ lastOf (-1) (picked (l.take j)) < l[j] then picked (l.take j) ++ [l[j]] else picked (l.take j) := rfl
      have ht2 := took_pick ht hxb.2
      generalize picked (l.take j) = r at ho ht HP hpd ht2
      generalize l[j] = x at hc hxb HP hpd ht2
      have hshort := ht.short
      have hge := ht.ge
      have hol := ho
      unfold OI at hol
      obtain ⟨A1, c1, rfl, hl1, hA1⟩ := ho.form
      have r1 := Lies.of_own hol
      have HT2 := Lib.hid ht2
      have HGe := Lib.hid hge
      clear ht2 hge ht
      by_cases h100 : r.length < 100
      · by_cases hx0 : 0 ≤ x
        · by_cases hr0 : r.length = 0
          · have hlx : lastOf (-1) r < x := by rw [List.length_eq_zero_iff.1 hr0, lastOf_nil]; omega
            have hq : ((r.length : Int) == 0) = true := beq_iff_eq.mpr (by omega)
            have HR0 := Lib.hid hr0
            clear hr0
            have e : pick r x = r ++ [x] := by rw [hpd, if_pos ⟨h100, hx0, hlx⟩]
            rw [e] at HP HT2
            have HPd := Lib.hid hpd
            have HLx := Lib.hid hlx
            clear hpd e hlx
            go_wp2_with (at_builtin; (refine wpList_app _ rfl _ _ 23 rfl w.heap.size 3 _ 1 8 Try.underlying23 info_i64 rfl (by decide) _ _ _ rfl (World.ownsRow.alloc hol _) (some ⟨wr.heap.size, 0, none⟩) 1 1 [.int .i64 x] rfl rfl (Lies.new wr 3 _ (0, 0)) (by intro u hu; cases List.mem_singleton.1 hu; rfl) (by simp) ?c1 ?c2 ?c3 ?_))
            case c1 => rw [HML.out]; omega
            case c2 => omega
            case c3 => have := hb.size; simp; omega
            intro v3 w3 hown3 hg3 _
            have ho3 : OI w3 w.heap.size v3 (r ++ [x]) := OI.mk hown3 (by simp) (by simp)
            have hb3 : Below w.heap.size w w3 := (hb.alloc hb.size _).grown hg3 (by have := hb.size; simp; omega) (by intro k hk; exact (World.ownsRow.lt hol k hk).1)
            clear hown3 hg3 hol
            go_wp2
            go_roundg (l.length - (j + 1))
            case measure => omega
            case rel => exact ⟨j + 1, by omega, by go_num, by rw [HP.out]; exact ho3, by rw [HP.out]; exact HT2.out, hb3⟩
          · have hq : ((r.length : Int) == 0) = false := beq_eq_false_iff_ne.mpr (by omega)
            have hle := lastOf_getElem (-1) (r := r) (by omega)
            obtain ⟨a1, rfl, hc2⟩ := r1.at (k := r.length - 1) (by simp; omega)
            rw [List.getElem_map, ← hle] at hc2
            have hsub : ((r.length : Int) - 1) = ((r.length - 1 : Nat) : Int) := by omega
            have HR0 := Lib.hid hr0
            clear hr0 hle
            by_cases hlx : lastOf (-1) r < x
            · generalize hlr : lastOf (-1) r = y at hc2 hlx hpd
              clear hlr
              have hq2 : decide (y < x) = true := decide_eq_true hlx
              have e : pick r x = r ++ [x] := by rw [hpd, if_pos ⟨h100, hx0, hlx⟩]
              rw [e] at HP HT2
              have HPd := Lib.hid hpd
              have HLx := Lib.hid hlx
              clear hpd e hlx
              go_wp2_with (at_builtin; (refine wpList_app _ rfl _ _ 23 rfl w.heap.size 3 _ 1 8 Try.underlying23 info_i64 rfl (by decide) _ _ _ rfl (World.ownsRow.alloc hol _) (some ⟨wr.heap.size, 0, none⟩) 1 1 [.int .i64 x] rfl rfl (Lies.new wr 3 _ (0, 0)) (by intro u hu; cases List.mem_singleton.1 hu; rfl) (by simp) ?c1 ?c2 ?c3 ?_))
              case c1 => rw [HML.out]; omega
              case c2 => omega
              case c3 => have := hb.size; simp; omega
              intro v3 w3 hown3 hg3 _
              have ho3 : OI w3 w.heap.size v3 (r ++ [x]) := OI.mk hown3 (by simp) (by simp)
              have hb3 : Below w.heap.size w w3 := (hb.alloc hb.size _).grown hg3 (by have := hb.size; simp; omega) (by intro k hk; exact (World.ownsRow.lt hol k hk).1)
              clear hown3 hg3 hol
              go_wp2
              go_roundg (l.length - (j + 1))
              case measure => omega
              case rel => exact ⟨j + 1, by omega, by go_num, by rw [HP.out]; exact ho3, by rw [HP.out]; exact HT2.out, hb3⟩
            · have e : pick r x = r := by rw [hpd, if_neg (fun h => hlx h.2.2)]
              rw [e] at HP HT2
              have HPd := Lib.hid hpd
              clear hpd e
              generalize hlr : lastOf (-1) r = y at hc2 hlx
              clear hlr
              have hq2 : decide (y < x) = false := decide_eq_false hlx
              go_wp2
              go_roundg (l.length - (j + 1))
              case measure => omega
              case rel => exact ⟨j + 1, by omega, by go_num, by rw [HP.out]; exact ho, by rw [HP.out]; exact HT2.out, hb⟩
        · have e : pick r x = r := by rw [hpd, if_neg (by omega)]
          rw [e] at HP HT2
          have HPd := Lib.hid hpd
          clear hpd e
          go_wp2
          go_roundg (l.length - (j + 1))
          case measure => omega
          case rel => exact ⟨j + 1, by omega, by go_num, by rw [HP.out]; exact ho, by rw [HP.out]; exact HT2.out, hb⟩
      · have e : pick r x = r := by rw [hpd, if_neg (by omega)]
        rw [e] at HP HT2
        clear hpd e
        go_wp2
        go_roundg (l.length - (j + 1))
        case measure => omega
        case rel => exact ⟨j + 1, by omega, by go_num, by rw [HP.out]; exact ho, by rw [HP.out]; exact HT2.out, hb⟩
    · obtain rfl : j = l.length := by omega
      rw [List.take_length] at ho ht
      generalize picked l = r at ho ht
      have hshort := ht.short
      have hge := ht.ge
      have hup := ht.up
      have hle := hup.le_last
      obtain ⟨A1, c1, rfl, hl1, hA1⟩ := ho.form
      have r1 := Lies.of_own ho
      have hgl := gapBytes_le r (-1)
      have hnl := numBytes_length r.length
      have hnd := need_le r.length
      have hrb : risingBytes r = numBytes r.length ++ gapBytes (-1) r := by rw [risingBytes, up_rise hup]
      have HC1 := rising_any none A1 0 c1 [] r wr (by simp; omega) (by simp) (by simp) hl1 (fun z hz => ⟨by have := (hge z hz).1; omega, (hge z hz).2⟩) (Lies.nil _ _) r1
      rw [List.nil_append] at HC1
      have hrl : (risingBytes r).length ≤ 2000 := by rw [hrb, List.length_append]; omega
      have HAll : Hid (risingBytes r ++ bs = numBytes r.length ++ (gapBytes (-1) r ++ bs)) := by show _ = _; rw [hrb, List.append_assoc]
      have HC2 := fun T (h1 : ∀ z ∈ r, z ≤ T) (h2 : T ≤ 9223372036854775807) g w h => rrisingok g 100 T r bs w hshort (by omega) hup h1 h2 h (by omega)
      generalize risingBytes r = t1 at HC1 hrl HAll
      have HC1 := Lib.hid HC1
      clear hgl hnl hnd hrb ho ht hup
      by_cases hr0 : r.length = 0
      · have hq : decide (0 < r.length) = false := decide_eq_false (by omega)
        have HC2 := Lib.hid (HC2 0 (by intro z hz; rw [List.length_eq_zero_iff.1 hr0] at hz; cases hz) (by decide))
        clear hr0 hge hle
        go_wp2_with fail
        refine HC1.out.mono ?_
        rintro e w2 ⟨v2, rfl, ho2, hb2⟩
        obtain ⟨A2, c2, rfl, hl2, hA2⟩ := ho2.form
        have hol := ho2
        unfold OB at hol
        have rb := hr.below (hb.trans (hb2.mono hb.size))
        have hsz2 := hb2.size
        go_wp2_with (at_builtin; refine wpList_app _ rfl _ _ 22 rfl wr.heap.size 5 _ 1 1 Try.underlying22 info_u8 rfl (by decide) _ _ _ rfl hol A bs.length c (bs.map vb) rfl (by simp) rb (vbs_one bs) hA ?c1 ?c2 ?c3 ?_)
        case c1 => rw [HML.out]; omega
        case c2 => omega
        case c3 => exact hsz2
        intro v4 w4 hown4 hg4 _
        have ho4 : OB w4 wr.heap.size v4 (t1 ++ bs) := OB.mk hown4 (by simp) (by simp)
        have hb4 : Below wr.heap.size wr w4 := hb2.grown hg4 hb2.size (by intro j hj; exact (World.ownsRow.lt hol j hj).1)
        clear hown4 hg4 hol ho2 hb2 rb
        have hl4e : (t1 ++ bs).length ≤ 140737488355328 := by rw [List.length_append]; omega
        obtain ⟨L4, hL4⟩ : ∃ L4, L4 = t1 ++ bs := ⟨_, rfl⟩
        rw [← hL4] at ho4 HAll hl4e
        clear hL4
        obtain ⟨A4, c4, rfl, hl4, hA4⟩ := ho4.form
        go_wp2_with fail
        refine (readok A4 c4 L4 w4 hl4e hA4 (RB.of_own ho4)).mono ?_
        rintro e w5 ⟨g, rfl, hrd, hgs, hb5⟩
        have hb05 := hb4.trans (hb5.mono hb4.size)
        have hgb : wr.heap.size ≤ g := Nat.le_trans hb4.size hgs
        rw [HAll.out] at hrd
        clear ho4 hb5 hb4 hl4e
        go_wp2_with fail
        refine (HC2.out g w5 hrd).mono ?_
        rintro e w6 ⟨v6, rfl, ho6, hrd, hg6⟩
        have r6 := lies_past r1 hgb (r1.below hb05) hg6
        have hb06 := hb05.grown hg6 hb05.size (by intro j hj; injection hj with hj; omega)
        obtain ⟨A6, c6, rfl, hl6, hA6⟩ := ho6.form
        clear hb05 hg6
        go_wp2_with fail
        refine (iequal_any A6 A1 c6 c1 r w6 hl6 hl1 (Lies.of_own ho6) r6 (by omega)).mono ?_
        rintro e w7 ⟨rfl, hb7⟩
        have hrd := hrd.alike hb7
        have hb07 := hb06.trans (hb7.mono hb06.size)
        clear ho6 r6 hb06 hb7
        go_wp2_with fail
        refine (rerrok g bs w7 hrd).mono ?_
        rintro e w9 ⟨rfl, rfl⟩
        go_wp2_with fail
        refine (rleftok g bs w7 hrd).mono ?_
        rintro e w9 ⟨rfl, rfl⟩
        go_wp2_with fail
        refine (awake_any _).mono ?_
        rintro e w9 ⟨rfl, hb9⟩
        go_wp2
        go_ret
        exact ⟨rfl, hb.trans ((hb07.trans (hb9.mono hb07.size)).mono hb.size)⟩
      · have hq : decide (0 < r.length) = true := decide_eq_true (by omega)
        have hlast := lastOf_getElem (-1) (r := r) (by omega)
        have HC2 := Lib.hid (HC2 (lastOf (-1) r) hle (by rw [hlast]; exact (hge _ (List.getElem_mem _)).2))
        obtain ⟨a1, rfl, hc2⟩ := r1.at (k := r.length - 1) (by simp; omega)
        rw [List.getElem_map, ← hlast] at hc2
        have hsub : ((r.length : Int) - 1) = ((r.length - 1 : Nat) : Int) := by omega
        have HR0 := Lib.hid hr0
        clear hr0 hlast hge hle
        generalize lastOf (-1) r = T at hc2 HC2
        go_wp2_with fail
        refine HC1.out.mono ?_
        rintro e w2 ⟨v2, rfl, ho2, hb2⟩
        obtain ⟨A2, c2, rfl, hl2, hA2⟩ := ho2.form
        have hol := ho2
        unfold OB at hol
        have rb := hr.below (hb.trans (hb2.mono hb.size))
        have hsz2 := hb2.size
        go_wp2_with (at_builtin; refine wpList_app _ rfl _ _ 22 rfl wr.heap.size 5 _ 1 1 Try.underlying22 info_u8 rfl (by decide) _ _ _ rfl hol A bs.length c (bs.map vb) rfl (by simp) rb (vbs_one bs) hA ?c1 ?c2 ?c3 ?_)
        case c1 => rw [HML.out]; omega
        case c2 => omega
        case c3 => exact hsz2
        intro v4 w4 hown4 hg4 _
        have ho4 : OB w4 wr.heap.size v4 (t1 ++ bs) := OB.mk hown4 (by simp) (by simp)
        have hb4 : Below wr.heap.size wr w4 := hb2.grown hg4 hb2.size (by intro j hj; exact (World.ownsRow.lt hol j hj).1)
        clear hown4 hg4 hol ho2 hb2 rb
        have hl4e : (t1 ++ bs).length ≤ 140737488355328 := by rw [List.length_append]; omega
        obtain ⟨L4, hL4⟩ : ∃ L4, L4 = t1 ++ bs := ⟨_, rfl⟩
        rw [← hL4] at ho4 HAll hl4e
        clear hL4
        obtain ⟨A4, c4, rfl, hl4, hA4⟩ := ho4.form
        go_wp2_with fail
        refine (readok A4 c4 L4 w4 hl4e hA4 (RB.of_own ho4)).mono ?_
        rintro e w5 ⟨g, rfl, hrd, hgs, hb5⟩
        have hb05 := hb4.trans (hb5.mono hb4.size)
        have hgb : wr.heap.size ≤ g := Nat.le_trans hb4.size hgs
        rw [HAll.out] at hrd
        clear ho4 hb5 hb4 hl4e
        go_wp2_with fail
        refine (HC2.out g w5 hrd).mono ?_
        rintro e w6 ⟨v6, rfl, ho6, hrd, hg6⟩
        have r6 := lies_past r1 hgb (r1.below hb05) hg6
        have hb06 := hb05.grown hg6 hb05.size (by intro j hj; injection hj with hj; omega)
        obtain ⟨A6, c6, rfl, hl6, hA6⟩ := ho6.form
        clear hb05 hg6
        go_wp2_with fail
        refine (iequal_any A6 (some a1) c6 c1 r w6 hl6 hl1 (Lies.of_own ho6) r6 (by omega)).mono ?_
        rintro e w7 ⟨rfl, hb7⟩
        have hrd := hrd.alike hb7
        have hb07 := hb06.trans (hb7.mono hb06.size)
        clear ho6 r6 hb06 hb7
        go_wp2_with fail
        refine (rerrok g bs w7 hrd).mono ?_
        rintro e w9 ⟨rfl, rfl⟩
        go_wp2_with fail
        refine (rleftok g bs w7 hrd).mono ?_
        rintro e w9 ⟨rfl, rfl⟩
        go_wp2_with fail
        refine (awake_any _).mono ?_
        rintro e w9 ⟨rfl, hb9⟩
        go_wp2
        go_ret
        exact ⟨rfl, hb.trans ((hb07.trans (hb9.mono hb07.size)).mono hb.size)⟩
end Go.Proofs.Ytcdggfojmfefkaa
