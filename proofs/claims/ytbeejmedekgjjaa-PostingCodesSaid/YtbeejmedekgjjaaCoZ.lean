/- The document's reader on any bytes. -/
import Derived.Test.YtbeejmedekgjjaaCoX
import Derived.Test.YtbeejmedekgjjaaCoT5
namespace Go.Proofs.Ytbeejmedekgjjaa
open Go.RowKit
set_option linter.unusedVariables false
set_option linter.unusedSimpArgs false
structure RfAt (w : World) (g : Nat) (A : Option Addr) (c : Nat) (bs : List UInt8) : Prop where
  cells : w.heap[g]? = some (.cells #[.slice A bs.length c, .int .i64 0] 56 (0, 0))
  bytes : RB w A bs
  cap0 : A = none → c = 0
  cap : bs.length ≤ c
  block : ∀ a, A = some a → a.block < g
def RfOk (w : World) (g : Nat) (bs : List UInt8) : Prop := ∃ A c, RfAt w g A c bs
theorem RfAt.rest {w : World} {g c : Nat} {A : Option Addr} {bs : List UInt8} (h : RfAt w g A c bs) : w.cell? ⟨g, 0, none⟩ = some (.slice A bs.length c) := by simp [World.cell?, h.cells]
theorem RfAt.err {w : World} {g c : Nat} {A : Option Addr} {bs : List UInt8} (h : RfAt w g A c bs) : w.cell? ⟨g, 1, none⟩ = some (.int .i64 0) := by simp [World.cell?, h.cells]
theorem RfAt.free {w : World} {g c : Nat} {A : Option Addr} {bs : List UInt8} (h : RfAt w g A c bs) (i : Nat) : w.frozen? ⟨g, i, none⟩ = false := by simp [World.frozen?, h.cells]
theorem RfAt.lt {w : World} {g c : Nat} {A : Option Addr} {bs : List UInt8} (h : RfAt w g A c bs) : g < w.heap.size := World.block_lt_of_cell? w ⟨g, 0, none⟩ h.rest
theorem RfAt.put {w : World} {g c c' : Nat} {A A' : Option Addr} {bs cs : List UInt8} (h : RfAt w g A c bs) (hb : RB w A' cs) (h0 : A' = none → c' = 0) (hc : cs.length ≤ c') (hg : ∀ a, A' = some a → a.block < g) : RfAt (w.setCell ⟨g, 0, none⟩ (.slice A' cs.length c')) g A' c' cs :=
  ⟨by rw [heap_setCell_same w g 0 _ _ _ h.cells]; rfl, Lies.grown hb (Lib.grownBy_setCell w g 0 _) (fun a e e2 => Nat.ne_of_lt (hg a e) (by injection e2)), h0, hc, hg⟩
theorem RfAt.alike {w w' : World} {g c : Nat} {A : Option Addr} {bs : List UInt8} (h : RfAt w g A c bs) (hb : Below w.heap.size w w') : RfAt w' g A c bs :=
  ⟨by rw [hb.block g h.lt]; exact h.cells, h.bytes.below hb, h.cap0, h.cap, h.block⟩
theorem RfOk.alike {w w' : World} {g : Nat} {bs : List UInt8} (h : RfOk w g bs) (hb : Below w.heap.size w w') : RfOk w' g bs := by
  obtain ⟨A, c, h⟩ := h
  exact ⟨A, c, h.alike hb⟩
theorem RfOk.lt {w : World} {g : Nat} {bs : List UInt8} (h : RfOk w g bs) : g < w.heap.size := by
  obtain ⟨A, c, h⟩ := h
  exact h.lt
theorem RfOk.own {w w' : World} {g : Nat} {bs : List UInt8} {row : Option Nat} (h : RfOk w g bs) (hg : w.grownBy w' row) (hr : ∀ k, row = some k → g < k) : RfOk w' g bs := by
  obtain ⟨A, c, h⟩ := h
  refine ⟨A, c, ?_, Lies.grown h.bytes hg (fun a e e2 => ?_), h.cap0, h.cap, h.block⟩
  · rw [hg.block g h.lt (fun e => ?_)]
    · exact h.cells
    · have := hr g e.symm; omega
  · have := hr _ e2.symm; have := h.block a e; omega
structure RfNo (w : World) (g e : Nat) : Prop where
  cells : w.heap[g]? = some (.cells #[.slice none 0 0, .int .i64 e] 56 (0, 0))
  pos : 0 < e
  small : e < 10
theorem RfNo.rest {w : World} {g e : Nat} (h : RfNo w g e) : w.cell? ⟨g, 0, none⟩ = some (.slice none 0 0) := by simp [World.cell?, h.cells]
theorem RfNo.err {w : World} {g e : Nat} (h : RfNo w g e) : w.cell? ⟨g, 1, none⟩ = some (.int .i64 e) := by simp [World.cell?, h.cells]
theorem RfNo.lt {w : World} {g e : Nat} (h : RfNo w g e) : g < w.heap.size := World.block_lt_of_cell? w ⟨g, 0, none⟩ h.rest
theorem RfNo.same {w w' : World} {g e : Nat} (h : RfNo w g e) (hg : w'.heap[g]? = w.heap[g]?) : RfNo w' g e := ⟨by rw [hg]; exact h.cells, h.pos, h.small⟩
theorem RfNo.alike {w w' : World} {g e : Nat} (h : RfNo w g e) (hb : Below w.heap.size w w') : RfNo w' g e := h.same (hb.block g h.lt)
theorem RfNo.own {w w' : World} {g e : Nat} {row : Option Nat} (h : RfNo w g e) (hg : w.grownBy w' row) (hr : ∀ k, row = some k → g < k) : RfNo w' g e :=
  h.same (hg.block g h.lt (fun e => by have := hr g e.symm; omega))
theorem rffail_ok (g e : Nat) (bs : List UInt8) (w : World) (h : RfOk w g bs) (h0 : 0 < e) (h1 : e < 10) :
    Calls Try.prog 47 #[.pointer (some ⟨g, 0, none⟩), .int .i64 e] w fun x w' => x = .returned (.tuple #[]) ∧ RfNo w' g e ∧ w.grownBy w' (some g) := by
  obtain ⟨A, c, h⟩ := h
  have k0 := h.rest
  have k1 := h.err
  have hf0 := h.free 0
  have hf1 := h.free 1
  have HC := Lib.hid h.cells
  have hq : ((e : Int) != 0) = true := bne_iff_ne.mpr (by omega)
  clear h
  go_enter Try.func47, Try.ntmps47
  go_wp2
  go_returns
  refine ⟨rfl, ⟨?_, h0, h1⟩, Lib.grownBy_trans (Lib.grownBy_setCell w g 1 _) (Lib.grownBy_setCell _ g 0 _)⟩
  rw [heap_setCell_same _ g 0 _ _ _ (heap_setCell_same w g 1 _ _ _ HC.out)]
  rfl
theorem rffail_no (g e c : Nat) (w : World) (h : RfNo w g c) :
    Calls Try.prog 47 #[.pointer (some ⟨g, 0, none⟩), .int .i64 e] w fun x w' => x = .returned (.tuple #[]) ∧ w = w' := by
  have k1 := h.err
  have hp := h.pos
  have hq : ((c : Int) == 0) = false := beq_eq_false_iff_ne.mpr (by omega)
  clear h
  go_enter Try.func47, Try.ntmps47
  go_wp2
  go_returns
  exact ⟨rfl, rfl⟩
theorem rfany_no (g c : Nat) (w : World) (h : RfNo w g c) :
    Calls Try.prog 46 #[.pointer (some ⟨g, 0, none⟩)] w fun e w' => e = .returned (.int .u64 0) ∧ w = w' := by
  have HF := Lib.hid (rffail_no g 4 c w h)
  have k0 := h.rest
  clear h
  go_enter Try.func46, Try.ntmps46
  go_wp2_with (go_at_call 47; refine HF.out.mono ?_; rintro e w1 ⟨rfl, rfl⟩)
  go_returns
  exact ⟨rfl, rfl⟩
theorem rfnum_no (g c : Nat) (most : Int) (w : World) (h : RfNo w g c) :
    Calls Try.prog 27 #[.pointer (some ⟨g, 0, none⟩), .int .i64 most] w fun e w' => e = .returned (.int .i64 0) ∧ w = w' := by
  have HT := Lib.hid (rfany_no g c w h)
  have k1 := h.err
  have hp := h.pos
  have hq : ((c : Int) == 0) = false := beq_eq_false_iff_ne.mpr (by omega)
  clear h
  go_enter Try.func27, Try.ntmps27
  go_wp2_with (go_at_call 46; refine HT.out.mono ?_; rintro e w1 ⟨rfl, rfl⟩)
  go_returns
  exact ⟨rfl, rfl⟩
set_option maxHeartbeats 1600000 in
theorem rfany (g : Nat) (bs : List UInt8) (w : World) (h : RfOk w g bs) (hm : bs.length ≤ 140737488355300) :
    Calls Try.prog 46 #[.pointer (some ⟨g, 0, none⟩)] w fun e w' => ((∃ x r, rawP bs = .ok x r ∧ e = .returned (.int .u64 x) ∧ RfOk w' g r) ∨ (∃ c, rawP bs = .no c ∧ e = .returned (.int .u64 0) ∧ RfNo w' g c)) ∧ w.grownBy w' (some g) := by
  cases bs with
  | nil =>
    have HF := Lib.hid (rffail_ok g 4 [] w h (by decide) (by decide))
    obtain ⟨A, c, h⟩ := h
    have h0 := h.rest
    clear h hm
    go_enter Try.func46, Try.ntmps46
    go_wp2_with (go_at_call 47; refine HF.out.mono ?_; rintro e w1 ⟨rfl, hr, hg⟩)
    go_returns
    exact ⟨.inr ⟨4, rfl, rfl, hr⟩, hg⟩
  | cons b bs =>
    have HFs := Lib.hid (fun e (h0 : 0 < e) (h1 : e < 10) w' (hb : Below w.heap.size w w') => rffail_ok g e (b :: bs) w' (h.alike hb) h0 h1)
    obtain ⟨A, c, h⟩ := h
    have hcap := h.cap
    have hlen : (b :: bs).length = bs.length + 1 := rfl
    have h0 := h.rest
    rw [hlen] at h0 hm hcap
    obtain ⟨a, rfl, hc⟩ := h.bytes.at (k := 0) (by simp)
    have HAt := Lib.hid (fun w' (hb : Below w.heap.size w w') => h.alike hb)
    have HTl : Hid (∀ j (hj : j < bs.length), w.cell? (a.add (j + 1)) = some (vb bs[j])) := by
      intro j hj
      obtain ⟨a', ha', hc'⟩ := h.bytes.at (k := j + 1) (by simp; omega)
      cases ha'
      rw [List.getElem_cons_succ] at hc'
      exact hc'
    have HP := Lib.hid (rawP_cons b bs)
    rw [Addr.add_zero', List.getElem_cons_zero] at hc
    clear hlen
    obtain ⟨o, ho⟩ : ∃ o, o = rawP (b :: bs) := ⟨_, rfl⟩
    rw [← ho] at HP ⊢
    clear ho
    have hh : b.toNat < 256 := b.toNat_lt
    have hc : w.cell? a = some (.int .u8 (b.toNat : Int)) := hc
    have H8 := onesUp_eight ⟨b.toNat, hh⟩
    have HAnd := hd_any ⟨b.toNat, hh⟩
    simp only at HAnd H8
    generalize b.toNat = B at hc HP hh H8 HAnd
    have HU := Lib.hid (fun i => show onesUp B (i + 1) = if onesUp B i = i ∧ B &&& (128 / 2 ^ i) ≠ 0 then i + 1 else onesUp B i from rfl)
    have HUle := Lib.hid (onesUp_le B)
    have HU0 := Lib.hid (show onesUp B 0 = 0 from rfl)
    have HSm := Lib.hid (acc_small B)
    have HU8 := Lib.hid H8
    have HA := Lib.hid HAnd
    have HH := Lib.hid h
    have hlp : (0 : Int) < (bs.length + 1 : Nat) := by omega
    clear H8 HAnd h
    go_enter Try.func46, Try.ntmps46
    go_wp2_with fail
    go_loopg [3, 15] 8 (fun r n i wr => Below w.heap.size w wr ∧ ∃ j : Nat, j + r = 8 ∧ i = .int .i64 j ∧ n = .int .i64 (onesUp B j))
    case atStart => exact ⟨Below.refl _ _, 0, by omega, rfl, by rw [HU0.out]; rfl⟩
    case round =>
      obtain ⟨hbw, j, hj, rfl, rfl⟩ := hrel
      have k0 : wr.cell? ⟨g, 0, none⟩ = some (.slice (some a) (bs.length + 1) c) := by have := (HAt.out wr hbw).rest; exact this
      have kc : wr.cell? a = some (.int .u8 (B : Int)) := cell_later hbw hc
      by_cases hj8 : j < 8
      · have hN : Hid (bits .and .u8 (B : Int) ((128 : Int) / 2 ^ j) = ((B &&& (128 / 2 ^ j) : Nat) : Int)) := by
          show _ = _
          rw [show ((128 : Int) / 2 ^ j) = ((128 / 2 ^ j : Nat) : Int) by simp, u8_and_nat _ _ hh (by have := Nat.div_le_self 128 (2 ^ j); omega)]
        have hle := HUle.out j
        have HUj := Lib.hid (HU.out j)
        generalize onesUp B j = n at HUj hle ⊢
        by_cases hnj : n = j
        · subst hnj
          by_cases hz : B &&& (128 / 2 ^ n) = 0
          · have hq : (bits .and .u8 (B : Int) ((128 : Int) / 2 ^ n) != 0) = false := by rw [hN.out, hz]; rfl
            have HE : Hid (onesUp B (n + 1) = n) := by show _ = _; rw [HUj.out, if_neg (fun h => h.2 hz)]
            clear hz hN HUj
            go_wp2
            go_quiet (fail)
            go_wp2
            go_roundg (8 - (n + 1))
            case measure => omega
            case rel => exact ⟨below_drewN hbw _, n + 1, by omega, by go_num, by rw [HE.out]⟩
          · have hq : (bits .and .u8 (B : Int) ((128 : Int) / 2 ^ n) != 0) = true := by rw [hN.out]; exact bne_iff_ne.mpr (by omega)
            have HE : Hid (onesUp B (n + 1) = n + 1) := by show _ = _; rw [HUj.out, if_pos ⟨rfl, hz⟩]
            clear hz hN HUj
            go_wp2
            go_quiet (fail)
            go_wp2
            go_roundg (8 - (n + 1))
            case measure => omega
            case rel => exact ⟨below_drewN hbw _, n + 1, by omega, by go_num, by rw [HE.out]; go_num⟩
        · have hq : ((n : Int) == (j : Int)) = false := beq_eq_false_iff_ne.mpr (by omega)
          have HE : Hid (onesUp B (j + 1) = n) := by show _ = _; rw [HUj.out, if_neg (fun h => hnj h.1)]
          clear hN HUj hnj
          go_wp2
          go_quiet (fail)
          go_wp2
          go_roundg (8 - (j + 1))
          case measure => omega
          case rel => exact ⟨below_drewN hbw _, j + 1, by omega, by go_num, by rw [HE.out]⟩
      · obtain rfl : j = 8 := by omega
        rw [HU8.out]
        have hk := ones_le B
        obtain ⟨k, hk0⟩ : ∃ k, k = ones B := ⟨_, rfl⟩
        have HA2 := HA.out
        have HH8 : Hid (8 ≤ k → hd B = 0) := fun h => by unfold hd; rw [← hk0, if_neg (by omega)]
        rw [← hk0] at hk HA2 ⊢
        have HP2 := HP.out
        rw [← hk0] at HP2
        have HSm' : Hid (∀ l : List UInt8, l.length ≤ k → acc (hd B) l < 18446744073709551616) := fun l h => HSm.out l (by rw [← hk0]; exact h)
        clear HU HU0 HU8 HUle HSm HA HP hk0
        by_cases hs : bs.length < k
        · have HF := Lib.hid (HFs.out 4 (by decide) (by decide) wr hbw)
          rw [if_pos hs] at HP2
          subst HP2
          clear HSm' HA2
          go_wp2_with (go_at_call 47; refine HF.out.mono ?_; rintro e w3 ⟨rfl, hr, hg⟩)
          go_returns
          exact ⟨.inr ⟨4, rfl, rfl, hr⟩, Lib.grownBy_trans (Lib.grownBy_below (World.grownBy.refl w _) hbw) hg⟩
        · rw [if_neg hs] at HP2
          have htl : (bs.take k).length = k := by rw [List.length_take]; omega
          have HSm2 : Hid (∀ j, j ≤ k → acc (hd B) ((bs.take k).take j) < 18446744073709551616) := fun j hj => HSm'.out _ (by rw [List.length_take]; omega)
          have hz : hd B < 18446744073709551616 := by
            have := HSm'.out [] (by simp)
            simpa [acc] using this
          have HTk0 : Hid (∀ W, Below w.heap.size w W → ∀ j (hj : j < (bs.take k).length), W.cell? (a.add (j + 1)) = some (.int .u8 ((bs.take k)[j].toNat : Int))) := by
            intro W hb j hj
            have := cell_later hb (HTl.out j (by omega))
            rw [List.getElem_take]
            exact this
          generalize bs.take k = tk at HP2 htl HSm2 HTk0
          have HP := Lib.hid HP2
          clear HP2 HSm' HTl
          by_cases h8 : k < 8
          · have hq : decide ((k : Int) < 8) = true := decide_eq_true (by omega)
            have hpk : (0 : Int) < 128 / 2 ^ k := by
              have : ∀ k : Fin 8, 0 < 128 / 2 ^ k.val := by decide
              have := this ⟨k, h8⟩
              rw [show ((128 : Int) / 2 ^ k) = ((128 / 2 ^ k : Nat) : Int) by simp]
              simp only at this
              omega
            have HV : Hid ((B : Int) % (128 / 2 ^ k) = ((hd B : Nat) : Int)) := by
              show _ = _
              rw [show ((128 : Int) / 2 ^ k) = ((128 / 2 ^ k : Nat) : Int) by simp, ← HA2 h8]
              omega
            generalize hd B = y0 at HP HSm2 hz HV
            clear HA2
            go_wp2
            go_quiet (fail)
            go_wp2_with fail
            rw [HV.out]
            have hbW := below_drewN hbw nq
            clear HV
            generalize wr.drewN nq = W at hbW ⊢
            have k0W : W.cell? ⟨g, 0, none⟩ = some (.slice (some a) (bs.length + 1) c) := by have := (HAt.out W hbW).rest; exact this
            have HTk := Lib.hid (HTk0.out W hbW)
            clear k0 kc HTk0
            go_wp2_with fail
            go_loopg [5, 59] k (fun r v i wz => wz = W ∧ ∃ j : Nat, j + r = k ∧ i = .int .i64 j ∧ v = .int .u64 ((acc y0 (tk.take j) : Nat) : Int))
            case atStart => exact ⟨rfl, 0, by omega, rfl, by rw [List.take_zero]; rfl⟩
            case round =>
              obtain ⟨rfl, j, hj, rfl, rfl⟩ := hrel
              by_cases hjk : j < k
              · have hjt : j < tk.length := by omega
                have hc3 := HTk.out j hjt
                rw [show a.add (j + 1) = ⟨a.block, a.off + (j + 1), none⟩ by simp [Addr.add]] at hc3
                have HA : Hid (acc y0 (tk.take (j + 1)) = acc y0 (tk.take j) * 256 + tk[j].toNat) := by show _ = _; rw [List.take_succ_eq_append_getElem hjt, acc_snoc]
                have hsm := HSm2.out (j + 1) (by omega)
                rw [HA.out] at hsm
                have hbl : tk[j].toNat < 256 := tk[j].toNat_lt
                generalize tk[j].toNat = c2 at hc3 HA hsm hbl
                generalize acc y0 (tk.take j) = y at HA hsm ⊢
                have hi0 : (0 : Int) ≤ (j : Int) + 1 := by omega
                have hi1 : (j : Int) + 1 < (bs.length + 1 : Nat) := by omega
                have hi2 : ((j : Int) + 1).toNat = j + 1 := by omega
                have HV : Hid (((y * 256 + c2 : Nat) : Int) = (y : Int) * 256 + (c2 : Int)) := by show _ = _; omega
                clear hjt
                go_wp2
                go_roundg (k - (j + 1))
                case measure => omega
                case rel => exact ⟨rfl, j + 1, by omega, by go_num, by rw [HA.out, HV.out]⟩
              · obtain rfl : j = k := by omega
                have hx := HSm2.out j (Nat.le_refl _)
                rw [List.take_of_length_le (by omega)] at hx ⊢
                generalize acc y0 tk = x at hx HP ⊢
                have hnx := need_le x
                have HP2 := HP.out
                have HBy := Lib.hid (rbytes_any x wr hx)
                have hnl := numBytes_length x
                clear HP HSm2 HTk
                generalize numBytes x = nb at HBy hnl
                by_cases hn : need x = j
                · rw [if_pos hn] at HP2
                  subst HP2
                  have hqn : (((need x + 1 : Nat) : Int) != (j : Int) + 1) = false := by rw [hn]; exact bne_self_eq_false _
                  have hqn2 : ((need x : Int) + 1 != (j : Int) + 1) = false := hqn
                  go_wp2_with (first
                    | (go_at_call 45; refine HBy.out.mono ?_; rintro e w2 ⟨v2, rfl, ho2, hb2⟩; obtain ⟨A2, c2, rfl, hl2, hA2⟩ := ho2.form; rw [hnl]; have hbw2 := hbW.trans (hb2.mono hbW.size); have hR2 := HAt.out w2 hbw2; have k2 : w2.cell? ⟨g, 0, none⟩ = some (.slice (some a) (bs.length + 1) c) := hR2.rest; have hf2 := hR2.free 0; have hgw : w.grownBy w2 (some g) := Lib.grownBy_below (World.grownBy.refl w _) hbw2; clear HBy ho2 hnl)
                    | (refine wpList_cut _ rfl (.tmp 87) (some (.tmp 89)) none none 23 rfl 5 _ 1 1 Try.underlying23 info_u8 (some a) (bs.length + 1) c rfl (j + 1) (bs.length + 1) c ⟨_, rfl⟩ rfl rfl (by simp) (by omega) (by omega) (by omega) ?_; intro A3 hA3))
                  go_returns
                  have hd : (b :: bs).drop (j + 1) = bs.drop j := rfl
                  have hr := hR2.put (A' := A3) (c' := c - (j + 1)) (cs := bs.drop j) (by have := hR2.bytes.from hA3 (by show bs.length + 1 ≤ c; omega); rwa [hd] at this) (hA3.cap0 (fun e => by cases e)) (by rw [List.length_drop]; omega) (hA3.block hR2.block)
                  have hdl : (bs.drop j).length = bs.length - j := by rw [List.length_drop]
                  rw [hdl] at hr
                  exact ⟨.inl ⟨x, bs.drop j, rfl, rfl, _, _, hr⟩, Lib.grownBy_trans hgw (Lib.grownBy_setCell w2 g 0 _)⟩
                · rw [if_neg hn] at HP2
                  subst HP2
                  have hqn : (((need x + 1 : Nat) : Int) != (j : Int) + 1) = true := bne_iff_ne.mpr (by omega)
                  have hqn2 : ((need x : Int) + 1 != (j : Int) + 1) = true := hqn
                  clear hn
                  go_wp2_with (first
                    | (go_at_call 45; refine HBy.out.mono ?_; rintro e w2 ⟨v2, rfl, ho2, hb2⟩; obtain ⟨A2, c2, rfl, hl2, hA2⟩ := ho2.form; rw [hnl]; have hbw2 := hbW.trans (hb2.mono hbW.size); have HF := Lib.hid (HFs.out 3 (by decide) (by decide) w2 hbw2); have hgw : w.grownBy w2 (some g) := Lib.grownBy_below (World.grownBy.refl w _) hbw2; clear HBy ho2 hnl)
                    | (go_at_call 47; refine HF.out.mono ?_; rintro e w5 ⟨rfl, hr5, hg5⟩))
                  go_returns
                  exact ⟨.inr ⟨3, rfl, rfl, hr5⟩, Lib.grownBy_trans hgw hg5⟩
          · have hq : decide ((k : Int) < 8) = false := decide_eq_false (by omega)
            have HV := HH8.out (by omega)
            generalize hd B = y0 at HP HSm2 hz HV
            subst HV
            clear HA2
            obtain ⟨W, rfl⟩ : ∃ W, W = wr := ⟨_, rfl⟩
            have hbW := hbw
            have k0W : W.cell? ⟨g, 0, none⟩ = some (.slice (some a) (bs.length + 1) c) := by have := (HAt.out W hbW).rest; exact this
            have HTk := Lib.hid (HTk0.out W hbW)
            clear k0 kc HTk0
            go_wp2_with fail
            go_loopg [5, 59] k (fun r v i wz => wz = W ∧ ∃ j : Nat, j + r = k ∧ i = .int .i64 j ∧ v = .int .u64 ((acc 0 (tk.take j) : Nat) : Int))
            case atStart => exact ⟨rfl, 0, by omega, rfl, by rw [List.take_zero]; rfl⟩
            case round =>
              obtain ⟨rfl, j, hj, rfl, rfl⟩ := hrel
              by_cases hjk : j < k
              · have hjt : j < tk.length := by omega
                have hc3 := HTk.out j hjt
                rw [show a.add (j + 1) = ⟨a.block, a.off + (j + 1), none⟩ by simp [Addr.add]] at hc3
                have HA : Hid (acc 0 (tk.take (j + 1)) = acc 0 (tk.take j) * 256 + tk[j].toNat) := by show _ = _; rw [List.take_succ_eq_append_getElem hjt, acc_snoc]
                have hsm := HSm2.out (j + 1) (by omega)
                rw [HA.out] at hsm
                have hbl : tk[j].toNat < 256 := tk[j].toNat_lt
                generalize tk[j].toNat = c2 at hc3 HA hsm hbl
                generalize acc 0 (tk.take j) = y at HA hsm ⊢
                have hi0 : (0 : Int) ≤ (j : Int) + 1 := by omega
                have hi1 : (j : Int) + 1 < (bs.length + 1 : Nat) := by omega
                have hi2 : ((j : Int) + 1).toNat = j + 1 := by omega
                have HV : Hid (((y * 256 + c2 : Nat) : Int) = (y : Int) * 256 + (c2 : Int)) := by show _ = _; omega
                clear hjt
                go_wp2
                go_roundg (k - (j + 1))
                case measure => omega
                case rel => exact ⟨rfl, j + 1, by omega, by go_num, by rw [HA.out, HV.out]⟩
              · obtain rfl : j = k := by omega
                have hx := HSm2.out j (Nat.le_refl _)
                rw [List.take_of_length_le (by omega)] at hx ⊢
                generalize acc 0 tk = x at hx HP ⊢
                have hnx := need_le x
                have HP2 := HP.out
                have HBy := Lib.hid (rbytes_any x wr hx)
                have hnl := numBytes_length x
                clear HP HSm2 HTk
                generalize numBytes x = nb at HBy hnl
                by_cases hn : need x = j
                · rw [if_pos hn] at HP2
                  subst HP2
                  have hqn : (((need x + 1 : Nat) : Int) != (j : Int) + 1) = false := by rw [hn]; exact bne_self_eq_false _
                  have hqn2 : ((need x : Int) + 1 != (j : Int) + 1) = false := hqn
                  go_wp2_with (first
                    | (go_at_call 45; refine HBy.out.mono ?_; rintro e w2 ⟨v2, rfl, ho2, hb2⟩; obtain ⟨A2, c2, rfl, hl2, hA2⟩ := ho2.form; rw [hnl]; have hbw2 := hbW.trans (hb2.mono hbW.size); have hR2 := HAt.out w2 hbw2; have k2 : w2.cell? ⟨g, 0, none⟩ = some (.slice (some a) (bs.length + 1) c) := hR2.rest; have hf2 := hR2.free 0; have hgw : w.grownBy w2 (some g) := Lib.grownBy_below (World.grownBy.refl w _) hbw2; clear HBy ho2 hnl)
                    | (refine wpList_cut _ rfl (.tmp 87) (some (.tmp 89)) none none 23 rfl 5 _ 1 1 Try.underlying23 info_u8 (some a) (bs.length + 1) c rfl (j + 1) (bs.length + 1) c ⟨_, rfl⟩ rfl rfl (by simp) (by omega) (by omega) (by omega) ?_; intro A3 hA3))
                  go_returns
                  have hd : (b :: bs).drop (j + 1) = bs.drop j := rfl
                  have hr := hR2.put (A' := A3) (c' := c - (j + 1)) (cs := bs.drop j) (by have := hR2.bytes.from hA3 (by show bs.length + 1 ≤ c; omega); rwa [hd] at this) (hA3.cap0 (fun e => by cases e)) (by rw [List.length_drop]; omega) (hA3.block hR2.block)
                  have hdl : (bs.drop j).length = bs.length - j := by rw [List.length_drop]
                  rw [hdl] at hr
                  exact ⟨.inl ⟨x, bs.drop j, rfl, rfl, _, _, hr⟩, Lib.grownBy_trans hgw (Lib.grownBy_setCell w2 g 0 _)⟩
                · rw [if_neg hn] at HP2
                  subst HP2
                  have hqn : (((need x + 1 : Nat) : Int) != (j : Int) + 1) = true := bne_iff_ne.mpr (by omega)
                  have hqn2 : ((need x : Int) + 1 != (j : Int) + 1) = true := hqn
                  clear hn
                  go_wp2_with (first
                    | (go_at_call 45; refine HBy.out.mono ?_; rintro e w2 ⟨v2, rfl, ho2, hb2⟩; obtain ⟨A2, c2, rfl, hl2, hA2⟩ := ho2.form; rw [hnl]; have hbw2 := hbW.trans (hb2.mono hbW.size); have HF := Lib.hid (HFs.out 3 (by decide) (by decide) w2 hbw2); have hgw : w.grownBy w2 (some g) := Lib.grownBy_below (World.grownBy.refl w _) hbw2; clear HBy ho2 hnl)
                    | (go_at_call 47; refine HF.out.mono ?_; rintro e w5 ⟨rfl, hr5, hg5⟩))
                  go_returns
                  exact ⟨.inr ⟨3, rfl, rfl, hr5⟩, Lib.grownBy_trans hgw hg5⟩
set_option maxHeartbeats 800000 in
theorem rfnum (g : Nat) (most : Int) (bs : List UInt8) (w : World) (h : RfOk w g bs) (hm : bs.length ≤ 140737488355300) :
    Calls Try.prog 27 #[.pointer (some ⟨g, 0, none⟩), .int .i64 most] w fun e w' => ((∃ x r, numP most bs = .ok x r ∧ e = .returned (.int .i64 x) ∧ RfOk w' g r) ∨ (∃ c, numP most bs = .no c ∧ e = .returned (.int .i64 0) ∧ RfNo w' g c)) ∧ w.grownBy w' (some g) := by
  have HR := Lib.hid (rfany g bs w h hm)
  have HE := Lib.hid (show numP most bs = match rawP bs with | .ok x r => if 9223372036854775808 ≤ x ∨ most < (x : Int) then .no 5 else .ok x r | .no e => .no e from rfl)
  have HX := Lib.hid (fun x r => rawP_lt (bs := bs) (r := r) (x := x))
  clear h hm
  go_enter Try.func27, Try.ntmps27
  go_wp2_with fail
  refine HR.out.mono ?_
  rintro e w1 ⟨⟨x, r, hx, rfl, hr⟩ | ⟨c, hc, rfl, hr⟩, hg⟩
  · have HE2 := HE.out
    have hxl := (HX.out x r hx).1
    rw [hx] at HE2
    clear HR HE HX hx
    simp only at HE2
    have HF := Lib.hid (rffail_ok g 5 r _ hr (by decide) (by decide))
    have hk1 : w1.cell? ⟨g, 1, none⟩ = some (.int .i64 0) := by obtain ⟨A, c, h⟩ := hr; exact h.err
    by_cases h1 : 9223372036854775808 ≤ x
    · rw [if_pos (.inl h1)] at HE2
      have HE := Lib.hid HE2
      have hq : decide ((x : Int) ≥ 9223372036854775808) = true := decide_eq_true (by omega)
      have hq2 : decide ((9223372036854775808 : Int) ≤ (x : Int)) = true := hq
      clear HE2 hxl hk1 h1
      go_wp2_with (go_at_call 47; refine HF.out.mono ?_; rintro e w2 ⟨rfl, hr2, hg2⟩)
      go_returns
      exact ⟨.inr ⟨5, HE.out, rfl, hr2⟩, Lib.grownBy_trans hg hg2⟩
    · have hq : decide ((x : Int) ≥ 9223372036854775808) = false := decide_eq_false (by omega)
      have hq2 : decide ((9223372036854775808 : Int) ≤ (x : Int)) = false := hq
      by_cases h2 : most < (x : Int)
      · rw [if_pos (.inr h2)] at HE2
        have HE := Lib.hid HE2
        have hwx : IntKind.i64.wrap (x : Int) = (x : Int) := by rw [IntKind.wrap_i64]; omega
        have hq3 : decide ((x : Int) > most) = true := decide_eq_true h2
        have hq4 : decide (most < (x : Int)) = true := decide_eq_true h2
        clear HE2 hxl h1 h2
        go_wp2_with (go_at_call 47; refine HF.out.mono ?_; rintro e w2 ⟨rfl, hr2, hg2⟩)
        go_returns
        exact ⟨.inr ⟨5, HE.out, rfl, hr2⟩, Lib.grownBy_trans hg hg2⟩
      · rw [if_neg (by omega)] at HE2
        have HE := Lib.hid HE2
        have hwx : IntKind.i64.wrap (x : Int) = (x : Int) := by rw [IntKind.wrap_i64]; omega
        have hq3 : decide ((x : Int) > most) = false := decide_eq_false h2
        have hq4 : decide (most < (x : Int)) = false := decide_eq_false h2
        clear HE2 HF hxl h1 h2
        go_wp2
        go_returns
        exact ⟨.inl ⟨x, r, HE.out, rfl, hr⟩, hg⟩
  · have HE2 := HE.out
    rw [hc] at HE2
    have HE := Lib.hid HE2
    have hk1 := hr.err
    have hp := hr.pos
    have hq : ((c : Int) == 0) = false := beq_eq_false_iff_ne.mpr (by omega)
    clear HR HX hc HE2
    go_wp2
    go_returns
    exact ⟨.inr ⟨c, HE.out, rfl, hr⟩, hg⟩
theorem rfnum_ok {g : Nat} {most : Int} {bs r : List UInt8} {x : Nat} (hx : numP most bs = .ok x r) (w : World) (h : RfOk w g bs) (hm : bs.length ≤ 140737488355300) :
    Calls Try.prog 27 #[.pointer (some ⟨g, 0, none⟩), .int .i64 most] w fun e w' => e = .returned (.int .i64 x) ∧ RfOk w' g r ∧ w.grownBy w' (some g) := by
  refine (rfnum g most bs w h hm).mono ?_
  rintro e w1 ⟨⟨y, s, hy, rfl, hr⟩ | ⟨c, hc, rfl, hr⟩, hg⟩
  · rw [hx] at hy; cases hy; exact ⟨rfl, hr, hg⟩
  · rw [hx] at hc; cases hc
theorem rfnum_no' {g : Nat} {most : Int} {bs : List UInt8} {c : Nat} (hx : numP most bs = .no c) (w : World) (h : RfOk w g bs) (hm : bs.length ≤ 140737488355300) :
    Calls Try.prog 27 #[.pointer (some ⟨g, 0, none⟩), .int .i64 most] w fun e w' => e = .returned (.int .i64 0) ∧ RfNo w' g c ∧ w.grownBy w' (some g) := by
  refine (rfnum g most bs w h hm).mono ?_
  rintro e w1 ⟨⟨y, s, hy, rfl, hr⟩ | ⟨d, hc, rfl, hr⟩, hg⟩
  · rw [hx] at hy; cases hy
  · rw [hx] at hc; cases hc; exact ⟨rfl, hr, hg⟩
end Go.Proofs.Ytbeejmedekgjjaa
