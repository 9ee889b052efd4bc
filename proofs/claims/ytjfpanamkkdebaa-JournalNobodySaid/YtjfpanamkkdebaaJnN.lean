/- A stream's records; a log opened. -/
import Derived.Test.YtjfpanamkkdebaaJnM
import Derived.Lib.ConvBytes
import Derived.Lib.SmallJoins
namespace Go.Proofs.Ytjfpanamkkdebaa
open Go.RowKit
set_option linter.unusedVariables false
set_option linter.unusedSimpArgs false
set_option maxHeartbeats 1600000 in
theorem stextB (g : Nat) (o : Option (List UInt8)) (w : World) (h : RdS w g o) (hl : OLen o) :
    Calls Try.prog 58 #[.pointer (some ⟨g, 0, none⟩), .int .i64 262148] w fun e w' => e = .returned (.string (str (textS 262148 o).1)) ∧ RdS w' g (textS 262148 o).2 ∧ w.grownBy w' (some g) := by
  have HN := Lib.hid (snum g 262148 o w h hl)
  have hol := numS_len (most := 262148) hl
  have hle : (numS 262148 o).1 ≤ 262148 := by
    cases o with
    | none => simp [numS]
    | some bs =>
      cases hn : numP 262148 bs with
      | ok x r => rw [numS_ok hn]; have := (numP_ok hn).2.1; simp only; omega
      | no e => rw [numS_no hn]; simp
  have HTe := Lib.hid (show textS 262148 o = match numS 262148 o with | (_, none) => ([], none) | (n, some r) => if r.length < n then ([], none) else (r.take n, some (r.drop n)) from rfl)
  cases hn : numS 262148 o with
  | mk n o1 =>
    rw [hn] at HN HTe hol hle
    simp only at HN HTe hol hle
    clear h hl hn
    cases o1 with
    | none =>
      have HT2 : Hid (textS 262148 o = ([], none)) := HTe.out
      clear HTe
      go_enter Try.func58, Try.ntmps58
      go_wp2_with (first
        | (go_at_call 73; refine HN.out.mono ?_; rintro e w1 ⟨rfl, ⟨c, hr1⟩, hg1⟩
           have HTk := Lib.hid (take_no g c (n : Int) w1 hr1)
           have kc := RB.str (P := Try.prog) (w := w1) (src := 29) (dst := 9) Try.underlying29 Try.underlying5 Try.underlying9 (A := none) (bs := []) (fun k v hk => by simp at hk) 0 0 rfl)
        | (go_at_call 72; refine HTk.out.mono ?_; rintro e w2 ⟨rfl, rfl⟩))
      go_returns
      rw [HT2.out]
      exact ⟨rfl, ⟨c, hr1⟩, hg1⟩
    | some r =>
      have hrl := hol r rfl
      by_cases hlt : r.length < n
      · have HT2 : Hid (textS 262148 o = ([], none)) := by show _ = _; rw [HTe.out]; simp [hlt]
        clear HTe
        go_enter Try.func58, Try.ntmps58
        go_wp2_with (first
          | (go_at_call 73; refine HN.out.mono ?_; rintro e w1 ⟨rfl, hr1, hg1⟩
             have HTk := Lib.hid (take_short g n r w1 hr1 hlt (by omega)))
          | (go_at_call 72; refine HTk.out.mono ?_; rintro e w2 ⟨rfl, hr2, hg2⟩
             have kc := RB.str (P := Try.prog) (w := w2) (src := 29) (dst := 9) Try.underlying29 Try.underlying5 Try.underlying9 (A := none) (bs := []) (fun k v hk => by simp at hk) 0 0 rfl))
        go_returns
        rw [HT2.out]
        exact ⟨rfl, ⟨4, hr2⟩, Lib.grownBy_trans hg1 hg2⟩
      · have HT2 : Hid (textS 262148 o = (r.take n, some (r.drop n))) := by show _ = _; rw [HTe.out]; simp [hlt]
        clear HTe
        go_enter Try.func58, Try.ntmps58
        go_wp2_with (first
          | (go_at_call 73; refine HN.out.mono ?_; rintro e w1 ⟨rfl, hr1, hg1⟩
             have HTk := Lib.hid (take_ok g n r w1 hr1 (by omega) (by omega)))
          | (go_at_call 72; refine HTk.out.mono ?_; rintro e w2 ⟨A2, rfl, hb2, hA2, hr2, hg2⟩
             have kc := RB.str (P := Try.prog) (w := w2) (src := 29) (dst := 9) Try.underlying29 Try.underlying5 Try.underlying9 hb2 n n (by rw [List.length_take]; omega)))
        go_returns
        rw [HT2.out]
        exact ⟨rfl, hr2, Lib.grownBy_trans hg1 hg2⟩
theorem rb_bytes (w : World) (s : ByteArray) : RB (Lib.bytesWorld w 5 s) (some ⟨w.heap.size, 0, none⟩) s.data.toList := by
  intro k v hk
  refine ⟨_, rfl, ?_⟩
  have hks : k < s.size := by
    rcases Nat.lt_or_ge k s.size with h | h
    · exact h
    · rw [List.getElem?_eq_none (by simpa using h)] at hk; cases hk
  rw [Addr.add_lit, Nat.zero_add, Lib.bytesWorld_cell w _ s k hks]
  rw [List.getElem?_map] at hk
  have hg : s.data.toList[k]? = some (s.data.toList.getD k 0) := by
    rw [List.getD_eq_getElem?_getD, List.getElem?_eq_getElem (by rw [Array.length_toList]; exact hks)]; rfl
  rw [hg] at hk
  simp only [Option.map_some, Option.some.injEq] at hk
  rw [← hk]; rfl
/-- The records of bytes, as far as they are whole. -/
def partsP : Nat → List UInt8 → List (List UInt8)
  | 0, _ => []
  | f + 1, bs =>
    if bs.length = 0 then []
    else match (textS 262148 (some bs)).2 with
      | none => []
      | some r => if (opened (textS 262148 (some bs)).1).2 = 0 then (opened (textS 262148 (some bs)).1).1 :: partsP f r else []
theorem rawP_shorter {bs r : List UInt8} {x : Nat} (h : rawP bs = .ok x r) : r.length < bs.length := by
  cases bs with
  | nil => cases h
  | cons b bs =>
    rw [rawP_cons] at h
    split at h
    · cases h
    · split at h
      · injection h with _ h
        subst h
        rw [List.length_drop, List.length_cons]
        omega
      · cases h
theorem numP_shorter {most : Int} {bs r : List UInt8} {x : Nat} (h : numP most bs = .ok x r) : r.length < bs.length := by
  unfold numP at h
  split at h
  · rename_i y s hy
    split at h
    · cases h
    · injection h with _ h
      subst h
      exact rawP_shorter hy
  · cases h
theorem textS_some {bs r : List UInt8} (h : (textS 262148 (some bs)).2 = some r) : r.length < bs.length ∧ (textS 262148 (some bs)).1.length ≤ 262148 := by
  unfold textS at h ⊢
  cases hn : numP 262148 bs with
  | no e => rw [numS_no hn] at h; cases h
  | ok x q =>
    rw [numS_ok hn] at h ⊢
    dsimp only at h ⊢
    have hx := (numP_ok hn).2.1
    have hq := numP_shorter hn
    split at h
    · cases h
    · rename_i hlt
      rw [if_neg hlt]
      injection h with h
      subst h
      rw [List.length_drop, List.length_take]
      omega
theorem textS_none {bs : List UInt8} (h : (textS 262148 (some bs)).2 = none) : (textS 262148 (some bs)).1 = [] := by
  unfold textS at h ⊢
  cases hn : numP 262148 bs with
  | no e => rw [numS_no hn]
  | ok x q =>
    rw [numS_ok hn] at h ⊢
    dsimp only at h ⊢
    split at h
    · rename_i hlt; rw [if_pos hlt]
    · cases h
theorem own_grown {w : World} {base : Nat} {e : TypeId} {size n : Nat} {v : Value} {xs : List Value} {w' : World} {r : Nat} (h : w.ownsRow base e size v n xs) (hg : w.grownBy w' (some r)) (hr : v.ownBlock ≠ some r) : w'.ownsRow base e size v n xs :=
  World.ownsRow.kept (row := some r) h hg (by
    cases q : v.ownBlock with
    | none => exact .inl rfl
    | some k => exact .inr (fun e2 => hr (by rw [q, e2])))
theorem own_kept2 {w : World} {base : Nat} {e : TypeId} {size n : Nat} {v : Value} {xs : List Value} {w' : World} {row : Option Nat} (h : w.ownsRow base e size v n xs) (hg : w.grownBy w' row) (hr : ∀ j, v.ownBlock = some j → row ≠ some j) : w'.ownsRow base e size v n xs :=
  World.ownsRow.kept (row := row) h hg (by
    cases q : v.ownBlock with
    | none => exact .inl rfl
    | some k => exact .inr (fun e2 => hr k q e2.symm))
theorem RdOk.later {w w' : World} {g : Nat} {bs : List UInt8} {row : Option Nat} (h : RdOk w g bs) (hg : w.grownBy w' row) (hr : ∀ j, row = some j → g < j) : RdOk w' g bs := by
  obtain ⟨A, c, h⟩ := h
  refine ⟨A, c, by rw [hg.block g h.lt (fun e => by have := hr g e.symm; omega)]; exact h.cells, fun j v hj => ?_, h.cap0, h.cap, h.block⟩
  obtain ⟨a, ha, hc⟩ := h.bytes j v hj
  refine ⟨a, ha, ?_⟩
  refine hg.cell hc (fun e => ?_)
  have h1 := hr _ e.symm
  have h2 := h.block a ha
  have h3 := add_blk a j
  omega
theorem info_bs : (Try.prog.info? 29).map (fun i => (i.zero, i.size, i.bytes)) = some (some (.slice none 0 0), 1, 24) := by kernel_rfl
theorem opened_le (bs : List UInt8) : (opened bs).1.length ≤ bs.length := by
  unfold opened
  split
  · simp
  · split
    · simp
    · simp
set_option maxRecDepth 100000 in
set_option maxHeartbeats 3200000 in
theorem parts_any (A : Option Addr) (c : Nat) (b : List UInt8) (w : World) (hm : b.length ≤ 1073741824) (hA : A = none → c = 0) (hr : RB w A b) :
    Calls Try.prog 37 #[.slice A b.length c] w fun e w' =>
      ∃ (v : Value) (rs : List RSl), e = .returned v ∧ w'.ownsRow w.heap.size 29 1 v rs.length (rs.map RSl.v) ∧ (∀ r ∈ rs, OB w' w.heap.size r.v r.bs) ∧ rs.map RSl.bs = partsP b.length b ∧ Below w.heap.size w w' := by
  obtain ⟨all, hall⟩ : ∃ all, partsP b.length b = all := ⟨_, rfl⟩
  rw [hall]
  have HAll := Lib.hid hall
  have HRd := Lib.hid (readok A c b w (by omega) hA hr)
  clear hall hr
  go_enter Try.func37, Try.ntmps37
  go_wp2_with fail
  refine HRd.out.mono ?_
  rintro e w0 ⟨g, rfl, hrd, hg0, hb0⟩
  go_wp2_with fail
  go_loopg [3] b.length (fun r s3 wr => ∃ (o : List UInt8) (rs : List RSl), RdOk wr g o ∧ o.length ≤ r ∧ o.length ≤ b.length ∧ wr.ownsRow (g + 1) 29 1 s3 rs.length (rs.map RSl.v) ∧ (∀ q ∈ rs, OB wr (g + 1) q.v q.bs) ∧ rs.length + o.length ≤ b.length ∧ rs.map RSl.bs ++ partsP r o = all ∧ Below w.heap.size w wr)
  case atStart => exact ⟨b, [], hrd, Nat.le_refl _, Nat.le_refl _, World.ownsRow_nil _ _ _ _, by simp, by simp, HAll.out, hb0⟩
  case round =>
    obtain ⟨o, rs, hrd, hol, hob, hown, hok, hcnt, hpt, hb⟩ := hrel
    clear hb0
    have HL := Lib.hid (rleftok g o wr hrd)
    obtain ⟨n, hn⟩ : ∃ n, rs.length = n := ⟨_, rfl⟩
    rw [hn] at hown hcnt
    obtain ⟨Av, cv, rfl, -⟩ := own_form hown
    by_cases ho0 : o.length = 0
    · have hq : decide ((o.length : Int) > 0) = false := decide_eq_false (by omega)
      have hq2 : decide (0 < o.length) = false := decide_eq_false (by omega)
      have HT2 := Lib.hid (show rs.map RSl.bs = all by
        rw [← hpt]
        cases gk with
        | zero => unfold partsP; rw [List.append_nil]
        | succ k => unfold partsP; rw [if_pos ho0, List.append_nil])
      have HN := Lib.hid hn
      clear hpt hn
      go_wp2_with (go_at_call 57; refine HL.out.mono ?_; rintro e w' ⟨rfl, rfl⟩)
      go_ret
      refine ⟨_, rs, rfl, ?_, fun q hq => (hok q hq).mono (by omega), HT2.out, hb⟩
      rw [HN.out]
      exact own_mono_base hown (by omega)
    · have hq : decide ((o.length : Int) > 0) = true := decide_eq_true (by omega)
      have hq2 : decide (0 < o.length) = true := decide_eq_true (by omega)
      obtain ⟨k, rfl⟩ : ∃ k, gk = k + 1 := ⟨gk - 1, by omega⟩
      have hOL : OLen (some o) := fun q hq => by injection hq with hq; subst hq; omega
      have HTx := Lib.hid (stextB g (some o) wr hrd hOL)
      have hol2 := textS_len (most := 262148) hOL
      have hsome := @textS_some o
      unfold partsP at hpt
      rw [if_neg ho0] at hpt
      obtain ⟨T, hT⟩ : ∃ T, textS 262148 (some o) = T := ⟨_, rfl⟩
      rw [hT] at HTx hol2 hpt hsome
      obtain ⟨s, oo⟩ := T
      dsimp only at HTx hol2 hpt hsome
      have kc := fun (w : World) => Lib.run_convert_string_bytes (P := Try.prog) w 9 29 5 (str s) Try.underlying9 Try.underlying29 Try.underlying5
      have hszT : (str s).size = s.length := str_size s
      have hbyT : (str s).data.toList = s := str_toList s
      have HSz := Lib.hid hszT
      have HBy := Lib.hid hbyT
      have hsl : s.length ≤ 262148 := by
        cases oo with
        | none => 
          have : s = [] := by
            have h := textS_none (bs := o) (by rw [hT])
            rw [hT] at h
            exact h
          rw [this]; decide
        | some r => exact (hsome rfl).2
      have HT := Lib.hid hT
      clear hszT hbyT hT
      go_wp2_with (go_at_call 57; refine HL.out.mono ?_; rintro e w' ⟨rfl, rfl⟩)
      refine HTx.out.mono ?_
      rintro e4 w4 ⟨rfl, hr4, hg4⟩
      have hbY := Joins.below_bytesWorld w4.heap.size w4 5 (str s) (Nat.le_refl _)
      have hRB := rb_bytes w4 (str s)
      rw [HBy.out] at hRB
      have hgs := hrd.lt
      have hown4 := own_grown hown hg4 (fun e => by have := (World.ownsRow.lt hown g e).1; omega)
      have hok4 : ∀ q ∈ rs, OB w4 (g + 1) q.v q.bs := fun q hq => own_grown (hok q hq) hg4 (fun e => by have := (World.ownsRow.lt (hok q hq) g e).1; omega)
      have hb4 : Below w.heap.size w w4 := hb.grown hg4 hb.size (fun k hk => by injection hk with hk; omega)
      have HOp := fopen_any (some ⟨w4.heap.size, 0, none⟩) (grownCap w4 (str s).size 0 5) s _ (by omega) (by rw [← HSz.out]; exact grownCap_ge w4 _ _ _) (by simp) hRB
      rw [← HSz.out] at HOp
      obtain ⟨OP, hOP⟩ : ∃ OP, opened s = OP := ⟨_, rfl⟩
      have hopl := opened_le s
      rw [hOP] at HOp hopl
      simp only [hOP] at hpt
      obtain ⟨x, ox⟩ := OP
      dsimp only at HOp hopl hpt
      have HOp := Lib.hid HOp
      have HQ := Lib.hid (⟨hown4, hok4, hb4, hr4⟩ : _ ∧ _ ∧ _ ∧ _)
      have HG4 := Lib.hid (⟨hown, hok, hrd, hb⟩ : _ ∧ _ ∧ _ ∧ _)
      clear hown4 hok4 hb4 hr4 hown hok hrd hb hRB HTx HL
      have hpN : n + 1 ≤ 1073741825 := by omega
      go_wp2_with fail
      refine HOp.out.mono ?_
      rintro e5 w5 ⟨v5, rfl, ho5, hb5⟩
      obtain ⟨A5, c5, rfl, hl5, hA5⟩ := OB.form ho5
      have hbE := hbY.trans (hb5.mono hbY.size)
      have HEr := Lib.hid (serr g oo w5 (RdS.below (o := oo) HQ.out.2.2.2 hbE))
      have hgw4 := Nat.lt_of_lt_of_le hgs hg4.size
      have HO5 := Lib.hid (OB.mono ho5 (show g + 1 ≤ _ from Nat.le_trans hgw4 hbY.size))
      have HBE := Lib.hid hbE
      clear ho5 hbE hb5 hbY HOp
      go_wp2_with fail
      refine HEr.out.mono ?_
      rintro e6 w6 ⟨ec, rfl, hec0, hec1, rfl⟩
      have hbQ : Below w.heap.size w w5 := HQ.out.2.2.1.trans (HBE.out.mono HQ.out.2.2.1.size)
      have hownQ := OS_below HQ.out.1 HBE.out
      have hokQ : ∀ q ∈ rs, OB w5 (g + 1) q.v q.bs := fun q hq => (HQ.out.2.1 q hq).below HBE.out
      cases oo with
      | none =>
        have hec := hec1 rfl
        have hz2 : ¬ ((ec : Int) = 0) := by omega
        have hz3 : ((ec : Int) == 0) = false := by rw [beq_eq_false_iff_ne]; omega
        have HT2 := Lib.hid (show rs.map RSl.bs = all by rw [← hpt, List.append_nil])
        have HN := Lib.hid hn
        have HF := Lib.hid (⟨hbQ, hownQ, hokQ⟩ : _ ∧ _ ∧ _)
        clear hpt hn hec0 hec1 hbQ hownQ hokQ HQ HG4 HEr
        go_wp2_with fail
        go_ret
        refine ⟨_, rs, rfl, ?_, fun q hq => (HF.out.2.2 q hq).mono (by omega), HT2.out, HF.out.1⟩
        rw [HN.out]
        exact own_mono_base HF.out.2.1 (by omega)
      | some r =>
        obtain rfl : ec = 0 := hec0 rfl
        dsimp only at hpt
        have hrd5 : RdOk w5 g r := RdS.below (o := some r) HQ.out.2.2.2 HBE.out
        by_cases hx : ox = 0
        · subst hx
          have hrl := (hsome rfl).1
          have HT2 := Lib.hid (show (rs ++ [(⟨A5, c5, x⟩ : RSl)]).map RSl.bs ++ partsP k r = all by
            rw [← hpt, if_pos rfl, List.map_append, List.append_assoc]; rfl)
          have HN := Lib.hid hn
          have hwl := HBE.out.size
          have hgw := hrd5.lt
          have HF := Lib.hid (⟨hbQ, hownQ, hokQ, hrd5⟩ : _ ∧ _ ∧ _ ∧ _)
          have HML : Hid (maxLen = 9223372036854775807) := rfl
          have hal5 : Below w5.heap.size w5 (w5.alloc (.cells #[.slice A5 x.length c5] 29)) := (Below.refl _ _).alloc (Nat.le_refl _) _
          have HA5l := Lib.hid hal5
          clear hpt hn hec0 hec1 hbQ hownQ hokQ HQ HG4 HEr hal5 hrd5
          go_wp2_with (at_builtin; refine wpList_one rfl _ _ 22 rfl (g + 1) 29 _ 24 Try.underlying22 info_bs rfl (.slice Av n cv) n (rs.map RSl.v) rfl (OS_below HF.out.2.1 HA5l.out) _ (.slice A5 x.length c5) rfl (tmp_here _ _ _) rfl ?c6 ?c7 ?c8 ?_)
          case c6 => rw [HML.out]; omega
          case c7 => omega
          case c8 => have := HA5l.out.size; omega
          intro g6 cap6 w6 hown6 hg6 hor hlt6
          have hownA := OS_below HF.out.2.1 HA5l.out
          have hrow : ∀ j, (Value.slice Av n cv).ownBlock = some j → g + 1 ≤ j ∧ ∃ cs, (w5.alloc (.cells #[.slice A5 x.length c5] 29)).heap[j]? = some (.cells cs 29 (0, 0)) := fun j hj => ⟨(World.ownsRow.lt hownA j hj).1, own_blk hownA j hj⟩
          have hokA : ∀ (v : Value) (b2 : List UInt8) (B : Nat), OB w5 B v b2 → OB w6 B v b2 := fun v b2 B h => by
            have hA := OB.below h HA5l.out
            refine own_kept2 hA hg6 (fun j hj e => ?_)
            obtain ⟨_, cs, hc⟩ := hrow j e
            obtain ⟨cs2, hc2⟩ := own_blk hA j hj
            rw [hc] at hc2
            injection hc2 with hc2
            injection hc2 with _ hc2
            exact absurd hc2 (by decide)
          have hbF : Below w.heap.size w w6 := (HF.out.1.trans (HA5l.out.mono HF.out.1.size)).grown hg6 (Nat.le_trans HF.out.1.size HA5l.out.size) (fun j hj => by have := (hrow j hj).1; omega)
          have hrdF : RdOk w6 g r := by
            have h1 : RdS (w5.alloc (.cells #[.slice A5 x.length c5] 29)) g (some r) := RdS.below (o := some r) HF.out.2.2.2 HA5l.out
            exact RdOk.later h1 hg6 (fun j hj => by have := (hrow j hj).1; omega)
          have HFF := Lib.hid (⟨hbF, hrdF, hown6, (fun q hq => hokA _ _ _ (HF.out.2.2.1 q hq) : ∀ q ∈ rs, OB w6 (g + 1) q.v q.bs), hokA _ _ _ HO5.out⟩ : _ ∧ _ ∧ _ ∧ _ ∧ _)
          clear hbF hrdF hown6 hokA hrow hownA hg6 HF
          go_wp2_with fail
          go_roundg k
          case measure => omega
          case rel =>
            obtain ⟨k1, k2, k3, k4, k5⟩ := HFF.out
            refine ⟨r, rs ++ [(⟨A5, c5, x⟩ : RSl)], k2, by omega, by omega, ?_, ?_, by rw [List.length_append, HN.out, List.length_singleton]; omega, HT2.out, k1⟩
            · rw [List.length_append, HN.out, List.length_singleton, List.map_append]
              exact k3
            · intro q hq
              rcases List.mem_append.1 hq with hq | hq
              · exact k4 q hq
              · rw [List.mem_singleton.1 hq]
                exact k5
        · have hz2 : ¬ ((ox : Int) = 0) := by omega
          have hz3 : ((ox : Int) == 0) = false := by rw [beq_eq_false_iff_ne]; omega
          have HT2 := Lib.hid (show rs.map RSl.bs = all by rw [← hpt, if_neg hx, List.append_nil])
          have HN := Lib.hid hn
          have HF := Lib.hid (⟨hbQ, hownQ, hokQ⟩ : _ ∧ _ ∧ _)
          clear hpt hn hec0 hec1 hbQ hownQ hokQ HQ HG4 HEr
          go_wp2_with fail
          go_ret
          refine ⟨_, rs, rfl, ?_, fun q hq => (HF.out.2.2 q hq).mono (by omega), HT2.out, HF.out.1⟩
          rw [HN.out]
          exact own_mono_base HF.out.2.1 (by omega)
end Go.Proofs.Ytjfpanamkkdebaa

