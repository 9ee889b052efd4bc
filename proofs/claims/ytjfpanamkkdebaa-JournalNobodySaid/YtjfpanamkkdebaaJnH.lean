/- Bytes poured onto pages. -/
import Derived.Test.YtjfpanamkkdebaaJnG
import Derived.Test.YtjfpanamkkdebaaOne
namespace Go.Proofs.Ytjfpanamkkdebaa
open Go.RowKit
set_option linter.unusedVariables false
set_option linter.unusedSimpArgs false
/-- Where a pour stands: the device, the page, its bytes; why it stopped (0: it did not). -/
structure Poured where
  d : Dsk
  pg : Nat
  bs : List UInt8
  e : Nat
def pourP (hf ep : Nat) : Nat → Dsk → Nat → List UInt8 → List UInt8 → Poured
  | 0, d, pg, bs, _ => ⟨d, pg, bs, 0⟩
  | f + 1, d, pg, bs, b =>
    if b.length = 0 then ⟨d, pg, bs, 0⟩
    else
      let n := min b.length (113 - bs.length)
      let bs2 := bs ++ b.take n
      let d2 := d.put (d.place hf pg : Nat) ep pg bs2
      let e2 := d.putE (d.place hf pg : Nat) ep pg bs2
      if e2 ≠ 0 then ⟨d2, pg, bs2, e2⟩
      else if bs2.length = 113 then pourP hf ep f d2 (pg + 1) [] (b.drop n)
      else pourP hf ep f d2 pg bs2 (b.drop n)
theorem pourP_nil (hf ep f : Nat) (d : Dsk) (pg : Nat) (bs b : List UInt8) (h : b.length = 0) : pourP hf ep f d pg bs b = ⟨d, pg, bs, 0⟩ := by
  cases f with
  | zero => rfl
  | succ f => unfold pourP; rw [if_pos h]
theorem pourP_fuel (hf ep : Nat) : ∀ (f : Nat) (d : Dsk) (pg : Nat) (bs b : List UInt8), bs.length < 113 → b.length ≤ f → pourP hf ep f d pg bs b = pourP hf ep b.length d pg bs b := by
  intro f
  induction f using Nat.strongRecOn with
  | _ f ih =>
    intro d pg bs b hl hb
    cases f with
    | zero => rw [show b.length = 0 by omega]
    | succ f =>
      by_cases h0 : b.length = 0
      · rw [pourP_nil _ _ _ _ _ _ _ h0, pourP_nil _ _ _ _ _ _ _ h0]
      · obtain ⟨q, hq⟩ : ∃ q, b.length = q + 1 := ⟨b.length - 1, by omega⟩
        rw [hq]
        unfold pourP
        rw [if_neg h0, if_neg h0]
        have hdl : (b.drop (min b.length (113 - bs.length))).length ≤ q := by rw [List.length_drop]; omega
        have h113 : (bs ++ b.take (min b.length (113 - bs.length))).length ≤ 113 := by rw [List.length_append, List.length_take]; omega
        dsimp only
        split
        · rfl
        · split
          · rw [ih f (by omega) _ _ [] _ (by decide) (by omega)]
            rcases Nat.lt_or_ge q (f + 1) with hlt | hge
            · rw [ih q (by omega) _ _ [] _ (by decide) hdl]
            · omega
          · rename_i hne
            rw [ih f (by omega) _ _ _ _ (by omega) (by omega), ih q (by omega) _ _ _ _ (by omega) hdl]
theorem pourP_step (hf ep : Nat) (d : Dsk) (pg : Nat) (bs b : List UInt8) (hl : bs.length < 113) (h0 : 0 < b.length) (n : Nat) (hn : n = min b.length (113 - bs.length)) :
    pourP hf ep b.length d pg bs b =
      if d.putE (d.place hf pg : Nat) ep pg (bs ++ b.take n) ≠ 0 then ⟨d.put (d.place hf pg : Nat) ep pg (bs ++ b.take n), pg, bs ++ b.take n, d.putE (d.place hf pg : Nat) ep pg (bs ++ b.take n)⟩
      else if (bs ++ b.take n).length = 113 then pourP hf ep (b.drop n).length (d.put (d.place hf pg : Nat) ep pg (bs ++ b.take n)) (pg + 1) [] (b.drop n)
      else pourP hf ep (b.drop n).length (d.put (d.place hf pg : Nat) ep pg (bs ++ b.take n)) pg (bs ++ b.take n) (b.drop n) := by
  subst hn
  obtain ⟨q, hq⟩ : ∃ q, b.length = q + 1 := ⟨b.length - 1, by omega⟩
  have hdl : (b.drop (min b.length (113 - bs.length))).length ≤ q := by rw [List.length_drop]; omega
  have h113 : (bs ++ b.take (min b.length (113 - bs.length))).length ≤ 113 := by rw [List.length_append, List.length_take]; omega
  have hu : pourP hf ep b.length d pg bs b = pourP hf ep (q + 1) d pg bs b := by rw [hq]
  rw [hu]
  conv => lhs; unfold pourP
  rw [if_neg (by omega)]
  dsimp only
  split
  · rfl
  · split
    · exact pourP_fuel hf ep q _ _ [] _ (by decide) hdl
    · exact pourP_fuel hf ep q _ _ _ _ (by omega) hdl
/-- A log, with its page's bytes and its device. -/
structure LgAt (w : World) (l hf ep sl pg : Nat) (bs : List UInt8) (g k m c : Nat) (d : Dsk) (sv rv : Value) (su : Nat) : Prop where
  cells : ∃ bv, LgC w l hf ep sl pg bv g sv rv su ∧ OB w 0 bv bs
  dk : DkAt w g k m c d
  lg : l ≠ g
  lk : l ≠ k
  lm : l ≠ m
theorem LgAt.lt {w : World} {l hf ep sl pg g k m c su : Nat} {bs : List UInt8} {d : Dsk} {sv rv : Value} (h : LgAt w l hf ep sl pg bs g k m c d sv rv su) : l < w.heap.size := by
  obtain ⟨bv, hc, _⟩ := h.cells
  exact blk_lt hc.blk
theorem own_only {w : World} {base : Nat} {e : TypeId} {size n : Nat} {v : Value} {xs : List Value} {w' : World} {S : List Nat} (h : w.ownsRow base e size v n xs) (hg : Only w w' S) (hr : ∀ k, v.ownBlock = some k → k ∉ S) : w'.ownsRow base e size v n xs := by
  refine ⟨h.1, ?_⟩
  rcases h.2 with h0 | ⟨g, cap, cur, rfl, hb, hh, r⟩
  · exact .inl h0
  · exact .inr ⟨g, cap, cur, rfl, hb, (hg.block g (blk_lt hh) (hr g rfl)).trans hh, r⟩
theorem add_blk (a : Addr) (k : Nat) : (a.add k).block = a.block := by
  unfold Addr.add; split <;> rfl
theorem RB.only {w w' : World} {A : Option Addr} {bs : List UInt8} {S : List Nat} (h : RB w A bs) (ho : Only w w' S) (hA : ∀ a, A = some a → bs ≠ [] → a.block ∉ S) : RB w' A bs := by
  intro k v hk
  obtain ⟨a, e, hc⟩ := h k v hk
  refine ⟨a, e, ?_⟩
  have hb : (a.add k).block = a.block := by unfold Addr.add; split <;> rfl
  have hlt := World.block_lt_of_cell? _ _ hc
  rw [hb] at hlt
  have hne : bs ≠ [] := by rintro rfl; simp at hk
  rw [World.cell?_of_block (w := w) (by rw [hb]; exact ho.block _ hlt (hA a e hne))]
  exact hc
set_option maxHeartbeats 800000 in
/-- The library's Clone of a row of bytes, nil too. -/
theorem bclone_all (A : Option Addr) (c : Nat) (bs : List UInt8) (w : World) (hm : bs.length ≤ 4096) (hA : A = none → c = 0) (hr : RB w A bs) :
    Calls Try.prog 40 #[.slice A bs.length c] w fun e w' => ∃ v, e = .returned v ∧ OB w' w.heap.size v bs ∧ Below w.heap.size w w' := by
  cases A with
  | none =>
    have h0 : bs = [] := by
      cases bs with
      | nil => rfl
      | cons b bs => obtain ⟨a, ha, _⟩ := hr.at (k := 0) (by simp); cases ha
    subst h0
    have kn := fun (l c l' c' : Nat) (w : World) => Lib.run_eql_slice_nil (P := Try.prog) w 29 5 none l c l' c' Try.underlying29
    go_enter Try.func40, Try.ntmps40
    go_wp2
    go_ret
    exact ⟨_, rfl, World.ownsRow_nil _ _ _ _, Below.refl _ _⟩
  | some a => exact bclone_any a c bs w hm hr
set_option maxRecDepth 100000 in
set_option maxHeartbeats 3200000 in
theorem pour_any (l hf ep sl pg : Nat) (bs : List UInt8) (g k m c : Nat) (d : Dsk) (sv rv : Value) (su : Nat) (A : Option Addr) (cb : Nat) (b : List UInt8) (w : World) (h : LgAt w l hf ep sl pg bs g k m c d sv rv su)
    (hhf : hf ≤ 1) (hep : ep < 4294967296) (hl : bs.length < 113) (hpg : pg * 113 + bs.length + b.length ≤ 400000) (hr : RB w A b) (hA : A = none → cb = 0) (hcb : b.length ≤ cb) (hAn : ∀ a, A = some a → b ≠ [] → a.block ∉ [l, g, m]) :
    Calls Try.prog 51 #[.pointer (some ⟨l, 0, none⟩), .slice A b.length cb] w fun e w' =>
      e = .returned (.int .i64 (pourP hf ep b.length d pg bs b).e) ∧ LgAt w' l hf ep sl (pourP hf ep b.length d pg bs b).pg (pourP hf ep b.length d pg bs b).bs g k m c (pourP hf ep b.length d pg bs b).d sv rv su ∧ Only w w' [l, g, m] := by
  obtain ⟨P, hP⟩ : ∃ P, pourP hf ep b.length d pg bs b = P := ⟨_, rfl⟩
  rw [hP]
  have HP := Lib.hid hP
  have HH := Lib.hid h
  have HR := Lib.hid hr
  clear hP h hr
  go_enter Try.func51, Try.ntmps51
  go_wp2_with fail
  go_loopg [1] b.length (fun r s1 wr => ∃ (d2 : Dsk) (pg2 : Nat) (bs2 b2 : List UInt8) (A2 : Option Addr) (c2 : Nat), b2.length = r ∧ s1 = .slice A2 b2.length c2 ∧ LgAt wr l hf ep sl pg2 bs2 g k m c d2 sv rv su ∧ bs2.length < 113 ∧ pg2 * 113 + bs2.length + b2.length ≤ 400000 ∧ RB wr A2 b2 ∧ (A2 = none → c2 = 0) ∧ b2.length ≤ c2 ∧ (∀ a, A2 = some a → b2 ≠ [] → a.block ∉ [l, g, m]) ∧ pourP hf ep b2.length d2 pg2 bs2 b2 = P ∧ Only w wr [l, g, m])
  case atStart => exact ⟨d, pg, bs, b, A, cb, rfl, rfl, HH.out, hl, hpg, HR.out, hA, hcb, hAn, HP.out, Only.refl _ _⟩
  case round =>
    obtain ⟨d2, pg2, bs2, b2, A2, c2, rfl, rfl, hL, hl2, hp2, hr2, hA2, hc2, hn2, hP2, ho2⟩ := hrel
    by_cases hb0 : b2.length = 0
    · have HL2 := Lib.hid hL
      rw [pourP_nil _ _ _ _ _ _ _ hb0] at hP2
      have HP2 := Lib.hid hP2
      have HO2 := Lib.hid ho2
      clear hL hP2 ho2 hr2
      have hb1 : decide ((b2.length : Int) > 0) = false := decide_eq_false (by omega)
      go_wp2_with fail
      go_ret
      rw [← HP2.out]
      exact ⟨rfl, HL2.out, HO2.out⟩
    · have hb1 : decide ((b2.length : Int) > 0) = true := decide_eq_true (by omega)
      obtain ⟨bv, hLc, hown⟩ := hL.cells
      obtain ⟨A3, c3, rfl, hlc3, hA3⟩ := OB.form hown
      have HLc := Lib.hid hLc.blk
      have HL2 := Lib.hid hL
      have HOw := Lib.hid hown
      have HO2 := Lib.hid ho2
      have HP2 := Lib.hid hP2
      have HR2 := Lib.hid hr2
      have k4 : wr.cell? ⟨l, 4, none⟩ = some (.slice A3 bs2.length c3) := blk_cell hLc.blk
      clear hL hLc hown ho2 hP2 hr2
      obtain ⟨n, hn⟩ : ∃ n, min b2.length (113 - bs2.length) = n := ⟨_, rfl⟩
      have hnI : min (b2.length : Int) (113 - (bs2.length : Int)) = (n : Int) := by omega
      have HN := Lib.hid hn
      clear hn
      have HML : Hid (maxLen = 9223372036854775807) := rfl
      have hn1 : n ≤ b2.length := by have := HN.out; omega
      have hn2 : n ≤ c2 := by omega
      obtain ⟨a2, rfl⟩ : ∃ a, A2 = some a := by
        obtain ⟨a, ha, _⟩ := HR2.out.at (k := 0) (by omega)
        exact ⟨a, ha⟩
      have HC := Lib.hid (bclone_all A3 c3 bs2 wr.drew (by omega) hA3 (RB.drew (RB.of_own HOw.out)))
      go_wp2_with fail
      refine wp_region_any (by kernel_rfl) ?_
      change wpAny _ _ _ _ _ _ _ (World.drew _)
      replace k4 : wr.drew.cell? ⟨l, 4, none⟩ = some (.slice A3 bs2.length c3) := k4
      have HDr : Hid (Below wr.heap.size wr wr.drew) := (Below.refl _ _).drew
      have HLd : Hid (wr.drew.heap[l]? = _) := HLc.out
      have HLl : Hid (l < wr.drew.heap.size) := blk_lt HLc.out
      generalize World.drew wr = wD at *
      refine wpAny_take (i := 0) (v := ?_) rfl (by kernel_rfl) (by kernel_rfl) (by kernel_rfl) (fun _ _ _ h => h) (Or.inl ⟨by rfl, ?_⟩) ?_; rotate_left; (intro w; go_simp); (try with_reducible rfl)
      simp only [Act.put, List.getElem_toArray, List.getElem_cons_succ, List.getElem_cons_zero, List.setIfInBounds_toArray, List.set_cons_zero, List.set_cons_succ]
      refine wpAny_take (i := 1) (v := ?_) rfl (by kernel_rfl) (by kernel_rfl) (by kernel_rfl) (fun _ _ _ h => h) (Or.inl ⟨by rfl, ?_⟩) ?_; rotate_left; (intro w; go_simp); (try with_reducible rfl)
      simp only [Act.put, List.getElem_toArray, List.getElem_cons_succ, List.getElem_cons_zero, List.setIfInBounds_toArray, List.set_cons_zero, List.set_cons_succ]
      refine wpAny_take (i := 2) (v := ?_) rfl (by kernel_rfl) (by kernel_rfl) (by kernel_rfl) (fun _ _ _ h => h) (Or.inl ⟨by rfl, ?_⟩) ?_; rotate_left; (intro w; go_simp); (try with_reducible rfl)
      simp only [Act.put, List.getElem_toArray, List.getElem_cons_succ, List.getElem_cons_zero, List.setIfInBounds_toArray, List.set_cons_zero, List.set_cons_succ]
      refine wpAny_take (i := 3) (v := ?_) rfl (by kernel_rfl) (by kernel_rfl) (by kernel_rfl) (fun _ _ _ h => h) (Or.inl ⟨by rfl, ?_⟩) ?_; rotate_left; (intro w; go_simp); (try with_reducible rfl)
      simp only [Act.put, List.getElem_toArray, List.getElem_cons_succ, List.getElem_cons_zero, List.setIfInBounds_toArray, List.set_cons_zero, List.set_cons_succ]
      refine wpAny_take (i := 4) (v := ?_) rfl (by kernel_rfl) (by kernel_rfl) (by kernel_rfl) (fun _ _ _ h => h) (Or.inl ⟨by rfl, ?_⟩) ?_; rotate_left; (intro w; go_simp); (try with_reducible rfl)
      simp only [Act.put, List.getElem_toArray, List.getElem_cons_succ, List.getElem_cons_zero, List.setIfInBounds_toArray, List.set_cons_zero, List.set_cons_succ]
      refine wpAny_take (i := 7) (v := ?_) rfl (by kernel_rfl) (by kernel_rfl) (by kernel_rfl) (fun _ _ _ h => h) (Or.inl ⟨by rfl, ?_⟩) ?_; rotate_left; (intro w; go_simp); (try with_reducible rfl)
      simp only [Act.put, List.getElem_toArray, List.getElem_cons_succ, List.getElem_cons_zero, List.setIfInBounds_toArray, List.set_cons_zero, List.set_cons_succ]
      refine wpAny_take (i := 8) (v := ?_) rfl (by kernel_rfl) (by kernel_rfl) (by kernel_rfl) (fun _ _ _ h => h) (Or.inl ⟨by rfl, ?_⟩) ?_; rotate_left; (intro w; go_simp); (try with_reducible rfl)
      simp only [Act.put, List.getElem_toArray, List.getElem_cons_succ, List.getElem_cons_zero, List.setIfInBounds_toArray, List.set_cons_zero, List.set_cons_succ]
      refine wpAny_take (i := 9) (v := .slice (some a2) n c2) rfl (by kernel_rfl) (by kernel_rfl) (by kernel_rfl) (fun _ _ _ h => h) (Or.inl ⟨by rfl, (by intro w; go_simp <;> (intro h9; exfalso; omega))⟩) ?_
      simp only [Act.put, List.getElem_toArray, List.getElem_cons_succ, List.getElem_cons_zero, List.setIfInBounds_toArray, List.set_cons_zero, List.set_cons_succ]
      refine wpAny_ready (rs := [5]) (by kernel_rfl) (by simp) ?_
      refine AllReady.cons rfl (fun K hK => ?_) AllReady.nil
      go_simp
      refine hK _ _ ?_
      clear hK K
      refine wpAny_ready (rs := [6]) (by kernel_rfl) (by simp) ?_
      refine AllReady.cons rfl (fun K hK => ?_) AllReady.nil
      go_simp
      go_at_call 40
      refine HC.out.mono ?_
      rintro e1 w1 ⟨v1, rfl, ho1, hb1'⟩
      have HO1 := Lib.hid ho1
      have HB1 := Lib.hid hb1'
      clear ho1 hb1'
      try go_simp
      refine hK _ _ ?_
      clear hK K
      refine wpAny_ready (rs := [10]) (by kernel_rfl) (by simp) ?_
      refine AllReady.cons rfl (fun K hK => ?_) AllReady.nil
      refine wp_app _ _ _ 29 rfl wD.heap.size 5 (.int .u8 0) 1 1 Try.underlying29 info_u8 rfl (by decide) v1 bs2.length (bs2.map vb) rfl HO1.out (some a2) n c2 ((b2.take n).map vb) rfl (by rw [List.length_map, List.length_take]; omega) (rb_take ((HR2.out.below HDr.out).below HB1.out) n) (vbs_one _) (fun e => by cases e) (by rw [HML.out]; omega) (by omega) HB1.out.size ?_
      intro v3 w3 hown3 hg3 _
      have ho3 : OB w3 wD.heap.size v3 (bs2 ++ b2.take n) := OB.mk hown3 (by rw [List.length_append, List.length_take]; omega) (by rw [List.map_append])
      obtain ⟨A4, c4, rfl, -, hA4⟩ := OB.form ho3
      have hl3 : w3.heap[l]? = wD.heap[l]? := (hg3.block l (Nat.lt_of_lt_of_le HLl.out HB1.out.size) (fun e => by have := World.ownsRow.lt HO1.out l e.symm; have := HLl.out; omega)).trans (HB1.out.block l HLl.out)
      have hb3 := hl3.trans HLd.out
      have HO3 := Lib.hid ho3
      have k43 : w3.cell? ⟨l, 4, none⟩ = some (.slice A3 bs2.length c3) := blk_cell hb3
      have f43 : w3.frozen? ⟨l, 4, none⟩ = false := blk_free hb3
      have HB3 := Lib.hid hb3
      clear ho3 hown3 hl3 hb3
      refine hK _ _ ?_
      clear hK K
      refine wpAny_take (i := 11) (v := ?_) rfl (by kernel_rfl) (by kernel_rfl) (by kernel_rfl) (fun _ _ _ h => h) (Or.inl ⟨by rfl, ?_⟩) ?_; rotate_left; (intro w; go_simp); (try with_reducible rfl)
      simp only [Act.put, List.getElem_toArray, List.getElem_cons_succ, List.getElem_cons_zero, List.setIfInBounds_toArray, List.set_cons_zero, List.set_cons_succ]
      refine wpAny_take (i := 12) (v := ?_) rfl (by kernel_rfl) (by kernel_rfl) (by kernel_rfl) (fun _ _ _ h => h) (Or.inl ⟨by rfl, ?_⟩) ?_; rotate_left; (intro w; go_simp); (try with_reducible rfl)
      simp only [Act.put, List.getElem_toArray, List.getElem_cons_succ, List.getElem_cons_zero, List.setIfInBounds_toArray, List.set_cons_zero, List.set_cons_succ]
      refine wpAny_take (i := 13) (v := ?_) rfl (by kernel_rfl) (by kernel_rfl) (by kernel_rfl) (fun _ _ _ h => h) (Or.inl ⟨by rfl, ?_⟩) ?_; rotate_left; (intro w; go_simp); (try with_reducible rfl)
      simp only [Act.put, List.getElem_toArray, List.getElem_cons_succ, List.getElem_cons_zero, List.setIfInBounds_toArray, List.set_cons_zero, List.set_cons_succ]
      refine wpAny_ready (rs := [14]) (by kernel_rfl) (by simp) ?_
      refine AllReady.cons rfl (fun K hK => ?_) AllReady.nil
      go_simp
      refine hK _ _ ?_
      clear hK K
      refine wpAny_done (by kernel_rfl) ?_ _
      obtain ⟨bs3, hbs3⟩ : ∃ x, bs2 ++ b2.take n = x := ⟨_, rfl⟩
      have hlen3 : (bs2 ++ b2.take n).length = bs2.length + n := by rw [List.length_append, List.length_take]; omega
      have HBS := Lib.hid hbs3
      have ho4 := HO3.out
      rw [hbs3] at hlen3 ho4
      rw [← hlen3]
      have hbW3 : Below wD.heap.size wD w3 := HB1.out.grown hg3 HB1.out.size (fun k e => (World.ownsRow.lt HO1.out k e).1)
      have hoE : Only wr (w3.setCell ⟨l, 4, none⟩ (.slice A4 bs3.length c4)) [l] := ((Only.of_below HDr.out []).mono (by simp)).trans (((Only.of_below hbW3 []).mono (by simp)).trans (Only.of_grown (Lib.grownBy_setCell w3 l 4 _)))
      have hdE := HL2.out.dk.only hoE (by simpa using HL2.out.lg.symm) (by simpa using HL2.out.lk.symm) (by simpa using HL2.out.lm.symm)
      have hE : (w3.setCell ⟨l, 4, none⟩ (.slice A4 bs3.length c4)).heap[l]? = some (.cells #[.int .i64 hf, .int .i64 ep, .int .i64 sl, .int .i64 pg2, .slice A4 bs3.length c4, .pointer (some ⟨g, 0, none⟩), sv, rv, .int .i64 su] 65 (0, 0)) := heap_setCell_same _ _ 4 _ _ (.slice A4 bs3.length c4) HB3.out
      have howE : OB (w3.setCell ⟨l, 4, none⟩ (.slice A4 bs3.length c4)) wD.heap.size (.slice A4 bs3.length c4) bs3 := ownsRow_setCell_below ho4 (a := ⟨l, 4, none⟩) HLl.out _
      have hrE := RB.only HR2.out hoE (fun a e hne => by have := hn2 a e hne; simp only [List.mem_cons, not_or, List.not_mem_nil, not_false_eq_true, and_true] at this ⊢; exact this.1)
      have HLenN := Lib.hid hlen3
      clear hlen3 ho4 HO3 HB3 HB1 HO1 hbW3 k43 f43 hg3 HLd k4 HC hbs3
      have hDs : wr.heap.size ≤ wD.heap.size := HDr.out.size
      generalize w3.setCell ⟨l, 4, none⟩ (.slice A4 bs3.length c4) = wE at *
      have hnE : n ≤ 113 - bs2.length := by have := HN.out; omega
      have hl3 : bs3.length ≤ 113 := by have := HLenN.out; omega
      have hdED : DkAt wE.drew g k m c d2 := hdE.below (Below.refl _ _).drew
      have HAt := Lib.hid (at_any g k m c d2 hf pg2 wE.drew hdED hhf (by omega))
      have HW := Lib.hid (put_any g k m c d2 (d2.place hf pg2 : Nat) ep pg2 A4 c4 bs3 wE.drew hdED hep (by omega) hl3 (RB.drew (RB.of_own howE)) hA4)
      have HPs := Lib.hid (pourP_step hf ep d2 pg2 bs2 b2 hl2 (by omega) n HN.out.symm)
      rw [HBS.out, HP2.out] at HPs
      have HDl := Lib.hid (show d2.place hf pg2 = d2.place hf pg2 from rfl)
      generalize d2.putE (d2.place hf pg2 : Nat) ep pg2 bs3 = E at *
      generalize d2.put (d2.place hf pg2 : Nat) ep pg2 bs3 = d3 at *
      generalize d2.place hf pg2 = pl at *
      have c0 : wE.drew.cell? ⟨l, 0, none⟩ = some (.int .i64 hf) := blk_cell hE
      have c1 : wE.drew.cell? ⟨l, 1, none⟩ = some (.int .i64 ep) := blk_cell hE
      have c3' : wE.drew.cell? ⟨l, 3, none⟩ = some (.int .i64 pg2) := blk_cell hE
      have c4' : wE.drew.cell? ⟨l, 4, none⟩ = some (.slice A4 bs3.length c4) := blk_cell hE
      have c5 : wE.drew.cell? ⟨l, 5, none⟩ = some (.pointer (some ⟨g, 0, none⟩)) := blk_cell hE
      have hlE := blk_lt hE
      have HE := Lib.hid (⟨hoE, hdE, hE, howE, hrE, hdED⟩ : Only wr wE [l] ∧ _ ∧ _ ∧ _ ∧ _ ∧ _)
      clear hoE hdE hE howE hrE hdED HDl
      go_wp2_with (refine wpList_cut _ rfl (.tmp 34) (some (.tmp 35)) none none 29 rfl 5 _ 1 1 Try.underlying29 info_u8 (some a2) b2.length c2 rfl n b2.length c2 ⟨_, rfl⟩ rfl rfl (by simp) (by omega) (by omega) (by omega) ?_; intro A5 hA5)
      go_region_held3 (fun w' => w'.cell? ⟨l, 0, none⟩ = some (.int .i64 hf) ∧ w'.cell? ⟨l, 1, none⟩ = some (.int .i64 ep) ∧ w'.cell? ⟨l, 3, none⟩ = some (.int .i64 pg2) ∧ w'.cell? ⟨l, 4, none⟩ = some (.slice A4 bs3.length c4) ∧ w'.cell? ⟨l, 5, none⟩ = some (.pointer (some ⟨g, 0, none⟩))) (first | exact ⟨c0, c1, c3', c4', c5⟩ | exact ⟨e0, e1, e3, e4, e5⟩) (first
        | (go_at_call 61; refine HAt.out.mono ?_; rintro e w' ⟨rfl, rfl⟩)
        | (go_at_call 63; refine HW.out.mono ?_; rintro e w' ⟨rfl, hd', ho'⟩; have hE' := (ho'.block l hlE (by have := HL2.out.lg; have := HL2.out.lm; simp; omega)).trans HE.out.2.2.1; have e0 : w'.cell? ⟨l, 0, none⟩ = some (.int .i64 hf) := blk_cell hE'; have e1 : w'.cell? ⟨l, 1, none⟩ = some (.int .i64 ep) := blk_cell hE'; have e3 : w'.cell? ⟨l, 3, none⟩ = some (.int .i64 pg2) := blk_cell hE'; have e4 : w'.cell? ⟨l, 4, none⟩ = some (.slice A4 bs3.length c4) := blk_cell hE'; have e5 : w'.cell? ⟨l, 5, none⟩ = some (.pointer (some ⟨g, 0, none⟩)) := blk_cell hE'))
      obtain ⟨hoE, hdE, hE, howE, hrE, -⟩ := HE.out
      have hlt2 := HL2.out.dk.lt
      have hoU : Only wE w' [g, m] := (Only.of_below (Below.refl wE.heap.size wE).drew [g, m]).trans ho'
      have hoW : OB w' wD.heap.size (.slice A4 bs3.length c4) bs3 := own_only howE hoU (by intro k' hk'; have := World.ownsRow.lt howE k' hk'; simp; omega)
      have hLg : LgAt w' l hf ep sl pg2 bs3 g k m c d3 sv rv su := ⟨⟨_, ⟨hE'⟩, hoW.mono (Nat.zero_le _)⟩, hd', HL2.out.lg, HL2.out.lk, HL2.out.lm⟩
      have hoA : Only w w' [l, g, m] := HO2.out.trans ((hoE.mono (by simp)).trans (hoU.mono (by simp)))
      have hA5b : ∀ a, A5 = some a → a.block = a2.block := by
        intro a ha
        unfold CutAt at hA5
        split at hA5
        · rw [hA5] at ha; injection ha with ha; rw [ha]
        · rw [hA5, Option.map_some] at ha; injection ha with ha; rw [← ha]; exact add_blk _ _
      have hA5n : A5 = none → c2 - n = 0 := by
        intro ha
        unfold CutAt at hA5
        split at hA5 <;> rw [hA5] at ha <;> cases ha
      have hn0 : 0 < n := by have := HN.out; omega
      have hb2n : b2 ≠ [] := by intro e; rw [e] at hb0; exact hb0 rfl
      have hnin := hn2 a2 rfl hb2n
      have hrD : RB w' A5 (b2.drop n) := RB.only (RB.from hrE hA5 hc2) hoU (fun a e hne => by rw [hA5b a e]; simp only [List.mem_cons, not_or, List.not_mem_nil, not_false_eq_true, and_true] at hnin ⊢; exact hnin.2)
      have hninD : ∀ a, A5 = some a → b2.drop n ≠ [] → a.block ∉ [l, g, m] := fun a e _ => by rw [hA5b a e]; exact hnin
      have hdl : (b2.drop n).length = b2.length - n := List.length_drop
      have HLN := HLenN.out
      have HF := Lib.hid (⟨hLg, hoA, hrD, hninD, hdl, hE'⟩ : LgAt w' l hf ep sl pg2 bs3 g k m c d3 sv rv su ∧ Only w w' [l, g, m] ∧ RB w' A5 (b2.drop n) ∧ (∀ a, A5 = some a → b2.drop n ≠ [] → a.block ∉ [l, g, m]) ∧ (b2.drop n).length = b2.length - n ∧ _)
      have HA5n := Lib.hid hA5n
      have k4 := e4
      clear hoE hdE hE howE hrE hoW hLg hoA hA5b hA5 hrD hninD hdl hE' HE HAt HW c0 c1 c3' c4' c5 e0 e1 e3 e4 e5 hd' ho' hoU HLN hA5n
      by_cases hEz : E = 0
      · subst hEz
        by_cases h113 : bs3.length = 113
        · have h113i : ((bs3.length : Int) == 113) = true := by rw [h113]; rfl
          have hT := turn_any l hf ep sl pg2 _ g sv rv su w' ⟨HF.out.2.2.2.2.2⟩ (by omega)
          have HT := Lib.hid hT
          have HPs2 := Lib.hid (show P = pourP hf ep (List.drop n b2).length d3 (pg2 + 1) [] (List.drop n b2) by rw [HPs.out, if_neg (by simp), if_pos h113])
          have H113 := Lib.hid h113
          clear hT HPs
          go_wp2_with (go_at_call 52; refine HT.out.mono ?_; rintro e w4 ⟨rfl, hc4', ho4'⟩)
          obtain ⟨hLg, hoA, hrD, hninD, hdl, -⟩ := HF.out
          have hLN3 := HLenN.out
          rw [← hdl]
          have hdk4 := hLg.dk.only ho4' (by simpa using hLg.lg.symm) (by simpa using hLg.lk.symm) (by simpa using hLg.lm.symm)
          have hrD4 := RB.only hrD ho4' (fun a e hne => by have := hninD a e hne; simp only [List.mem_cons, not_or, List.not_mem_nil, not_false_eq_true, and_true] at this ⊢; exact this.1)
          go_roundg ((b2.drop n).length)
          case measure => omega
          case rel => exact ⟨d3, pg2 + 1, [], b2.drop n, A5, c2 - n, rfl, rfl, ⟨⟨_, hc4', World.ownsRow_nil _ _ _ _⟩, hdk4, hLg.lg, hLg.lk, hLg.lm⟩, by decide, by simp only [List.length_nil]; omega, hrD4, HA5n.out, by omega, hninD, HPs2.out.symm, hoA.trans (ho4'.mono (by simp))⟩
        · have h113i : ((bs3.length : Int) == 113) = false := by rw [beq_eq_false_iff_ne]; omega
          have h113j : ¬ ((bs3.length : Int) = 113) := by omega
          have HPs2 := Lib.hid (show P = pourP hf ep (List.drop n b2).length d3 pg2 bs3 (List.drop n b2) by rw [HPs.out, if_neg (by simp), if_neg h113])
          clear HPs
          go_wp2_with fail
          obtain ⟨hLg, hoA, hrD, hninD, hdl, -⟩ := HF.out
          have hLN3 := HLenN.out
          rw [← hdl]
          go_roundg ((b2.drop n).length)
          case measure => omega
          case rel => exact ⟨d3, pg2, bs3, b2.drop n, A5, c2 - n, rfl, rfl, hLg, by omega, by omega, hrD, HA5n.out, by omega, hninD, HPs2.out.symm, hoA⟩
      · have hE2 : ¬ ((E : Int) = 0) := by omega
        have hE3 : ((E : Int) == 0) = false := by rw [beq_eq_false_iff_ne]; omega
        have HPs2 := Lib.hid (show P = ⟨d3, pg2, bs3, E⟩ by rw [HPs.out, if_pos hEz])
        clear HPs
        go_wp2_with fail
        go_ret
        rw [HPs2.out]
        exact ⟨rfl, HF.out.1, HF.out.2.1⟩
end Go.Proofs.Ytjfpanamkkdebaa
