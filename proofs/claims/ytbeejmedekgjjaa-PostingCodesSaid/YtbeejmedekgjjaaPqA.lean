/- The document's reader, whatever it has read: one word for both. -/
import Derived.Test.YtbeejmedekgjjaaPoH
import Derived.Test.YtbeejmedekgjjaaCov
namespace Go.Proofs.Ytbeejmedekgjjaa
open Go.RowKit
set_option linter.unusedVariables false
set_option linter.unusedSimpArgs false
/-- The document's reader with these bytes left; none: it has an error. -/
def RfS (w : World) (g : Nat) : Option (List UInt8) → Prop
  | some bs => RfOk w g bs
  | none => ∃ e, RfNo w g e
theorem RfS.lt {w : World} {g : Nat} {o : Option (List UInt8)} (h : RfS w g o) : g < w.heap.size := by
  cases o with
  | none => obtain ⟨e, h⟩ := h; exact h.lt
  | some bs => exact RfOk.lt h
theorem RfS.below {w w' : World} {g : Nat} {o : Option (List UInt8)} (h : RfS w g o) (hb : Below w.heap.size w w') : RfS w' g o := by
  cases o with
  | none => obtain ⟨e, h⟩ := h; exact ⟨e, h.alike hb⟩
  | some bs => exact RfOk.alike h hb
/-- What a reader's two cells hold. -/
theorem RfS.cell {w : World} {g : Nat} {o : Option (List UInt8)} (h : RfS w g o) : ∃ (A : Option Addr) (c e : Nat), w.cell? ⟨g, 0, none⟩ = some (.slice A (o.getD []).length c) ∧ w.cell? ⟨g, 1, none⟩ = some (.int .i64 e) ∧ (o.isSome = true → e = 0) ∧ (o.isSome = false → 0 < e) := by
  cases o with
  | none => obtain ⟨e, h⟩ := h; exact ⟨none, 0, e, h.rest, h.err, by simp, fun _ => h.pos⟩
  | some bs => obtain ⟨A, c, h⟩ := h; exact ⟨A, c, 0, h.rest, h.err, fun _ => rfl, by simp⟩
theorem numS_none {most : Int} {o : Option (List UInt8)} (h : (numS most o).2 = none) : (numS most o).1 = 0 := by
  cases o with
  | none => rfl
  | some bs =>
    cases hn : numP most bs with
    | ok x r => rw [numS_ok hn] at h; simp at h
    | no e => rw [numS_no hn]
theorem fsnum (g : Nat) (most : Int) (o : Option (List UInt8)) (w : World) (h : RfS w g o) (hl : OLen o) :
    Calls Try.prog 27 #[.pointer (some ⟨g, 0, none⟩), .int .i64 most] w fun e w' => e = .returned (.int .i64 (numS most o).1) ∧ RfS w' g (numS most o).2 ∧ w.grownBy w' (some g) := by
  cases o with
  | none =>
    obtain ⟨c, h⟩ := h
    refine (rfnum_no g c most w h).mono ?_
    rintro e w' ⟨rfl, rfl⟩
    exact ⟨rfl, ⟨c, h⟩, World.grownBy.refl _ _⟩
  | some bs =>
    refine (rfnum g most bs w h (hl bs rfl)).mono ?_
    rintro e w' ⟨⟨x, r, hx, rfl, hr⟩ | ⟨c, hx, rfl, hr⟩, hg⟩
    · rw [numS_ok hx]
      exact ⟨rfl, hr, hg⟩
    · rw [numS_no hx]
      exact ⟨rfl, ⟨c, hr⟩, hg⟩
theorem rfrising_no (g c : Nat) (many top : Int) (w : World) (h : RfNo w g c) :
    Calls Try.prog 48 #[.pointer (some ⟨g, 0, none⟩), .int .i64 many, .int .i64 top] w fun e w' => e = .returned (.slice none 0 0) ∧ w = w' := by
  have HR := Lib.hid (rfnum_no g c many w h)
  clear h
  go_enter Try.func48, Try.ntmps48
  go_wp2_with (go_at_call 27; refine HR.out.mono ?_; rintro e w1 ⟨rfl, rfl⟩)
  go_loopg [8, 16] 0 (fun r v i wr => wr = w ∧ i = .int .i64 0 ∧ v = .slice none 0 0)
  case atStart => exact ⟨rfl, rfl, rfl⟩
  case round =>
    obtain ⟨rfl, rfl, rfl⟩ := hrel
    go_wp2
    go_returns
    exact ⟨rfl, rfl⟩
theorem fsrising (g : Nat) (many top : Int) (o : Option (List UInt8)) (w : World) (hmany : many ≤ 65536) (ht0 : -1 ≤ top) (ht1 : top ≤ 65536) (h : RfS w g o) (hl : OLen o) :
    Calls Try.prog 48 #[.pointer (some ⟨g, 0, none⟩), .int .i64 many, .int .i64 top] w fun e w' => ∃ v, e = .returned v ∧ OI w' w.heap.size v (risingS many top o).1 ∧ RfS w' g (risingS many top o).2 ∧ w.grownBy w' (some g) := by
  cases o with
  | none =>
    obtain ⟨c, h⟩ := h
    refine (rfrising_no g c many top w h).mono ?_
    rintro e w' ⟨rfl, rfl⟩
    exact ⟨_, rfl, World.ownsRow_nil _ _ _ _, ⟨c, h⟩, World.grownBy.refl _ _⟩
  | some bs =>
    refine (rfrising g many top bs w hmany ht0 ht1 h (hl bs rfl)).mono ?_
    rintro e w' ⟨v, l, rfl, hv, ⟨r, hx, hr⟩ | ⟨c, hx, rfl, hr⟩, hg⟩
    · rw [risingS_ok hx]
      exact ⟨v, rfl, hv, hr, hg⟩
    · rw [risingS_no hx]
      exact ⟨v, rfl, hv, ⟨c, hr⟩, hg⟩
theorem fsend (g : Nat) (o : Option (List UInt8)) (w : World) (h : RfS w g o) :
    Calls Try.prog 30 #[.pointer (some ⟨g, 0, none⟩)] w fun e w' => ∃ c : Nat, e = .returned (.int .i64 c) ∧ (overS o = true → c = 0) ∧ (overS o = false → 0 < c) ∧ w = w' := by
  cases o with
  | none =>
    obtain ⟨c, h⟩ := h
    have k1 := h.err
    have hp := h.pos
    have hq : ((c : Int) == 0) = false := beq_eq_false_iff_ne.mpr (by omega)
    clear h
    go_enter Try.func30, Try.ntmps30
    go_wp2_with fail
    go_returns
    exact ⟨c, rfl, by simp [overS], fun _ => hp, rfl⟩
  | some bs =>
    obtain ⟨A, c, h⟩ := h
    have k0 := h.rest
    have k1 := h.err
    clear h
    cases bs with
    | nil =>
      have k0 : w.cell? ⟨g, 0, none⟩ = some (.slice A 0 c) := k0
      go_enter Try.func30, Try.ntmps30
      go_wp2_with fail
      go_returns
      exact ⟨0, rfl, by simp, by simp [overS], rfl⟩
    | cons b bs =>
      have hq : decide (((b :: bs).length : Int) > 0) = true := decide_eq_true (by simp)
      have hq2 : 0 < (b :: bs).length := by simp
      generalize (b :: bs).length = m at k0 hq hq2
      go_enter Try.func30, Try.ntmps30
      go_wp2_with fail
      go_returns
      exact ⟨3, rfl, by simp [overS], by simp, rfl⟩
set_option maxHeartbeats 1600000 in
theorem fstext (g : Nat) (o : Option (List UInt8)) (w : World) (h : RfS w g o) (hl : OLen o) :
    Calls Try.prog 28 #[.pointer (some ⟨g, 0, none⟩), .int .i64 65536] w fun e w' => e = .returned (.string (str (textS 65536 o).1)) ∧ RfS w' g (textS 65536 o).2 ∧ w.grownBy w' (some g) := by
  have HN := Lib.hid (fsnum g 65536 o w h hl)
  have hol := numS_len (most := 65536) hl
  have hz := numS_none (most := 65536) (o := o)
  have HTe := Lib.hid (show textS 65536 o = match numS 65536 o with | (_, none) => ([], none) | (n, some r) => if r.length < n then ([], none) else (r.take n, some (r.drop n)) from rfl)
  cases hn : numS 65536 o with
  | mk n o1 =>
    rw [hn] at HN HTe hol hz
    simp only at HN HTe hol hz
    clear h hl hn
    cases o1 with
    | none =>
      obtain rfl := hz rfl
      have HT2 : Hid (textS 65536 o = ([], none)) := HTe.out
      clear HTe hz
      go_enter Try.func28, Try.ntmps28
      go_wp2_with fail
      refine HN.out.mono ?_
      rintro e w1 ⟨rfl, ⟨c, hr1⟩, hg1⟩
      have k0 := hr1.rest
      have kf : w1.frozen? ⟨g, 0, none⟩ = false := frozen_of_row _ _ _ _ _ hr1.cells
      have kc := RB.str (P := Try.prog) (w := w1) (src := 23) (dst := 9) Try.underlying23 Try.underlying5 Try.underlying9 (A := none) (bs := []) (fun k v hk => by simp at hk) 0 0 rfl
      go_wp2_with (first
        | (refine wpList_cut _ rfl (.tmp 22) none (some (.tmp 23)) none 23 rfl 5 _ 1 1 Try.underlying23 info_u8 none 0 0 rfl 0 0 0 rfl ⟨_, rfl⟩ rfl (by simp) (by omega) (by omega) (by omega) ?_; intro A1 hA1; obtain rfl : A1 = none := hA1)
        | (refine wpList_cut _ rfl (.tmp 30) (some (.tmp 31)) none none 23 rfl 5 _ 1 1 Try.underlying23 info_u8 none 0 0 rfl 0 0 0 ⟨_, rfl⟩ rfl rfl (by simp) (by omega) (by omega) (by omega) ?_; intro A2 hA2; obtain rfl : A2 = none := hA2))
      go_returns
      rw [HT2.out]
      refine ⟨rfl, ⟨c, ⟨?_, hr1.pos, hr1.small⟩⟩, Lib.grownBy_trans hg1 (Lib.grownBy_setCell w1 g 0 _)⟩
      rw [heap_setCell_same _ g 0 _ _ _ hr1.cells]
      rfl
    | some r =>
      have hrl := hol r rfl
      clear hz
      by_cases hlt : r.length < n
      · have HT2 : Hid (textS 65536 o = ([], none)) := by show _ = _; rw [HTe.out]; simp [hlt]
        have hq : decide ((n : Int) > (r.length : Int)) = true := decide_eq_true (by omega)
        have hq2 : decide ((r.length : Int) < (n : Int)) = true := decide_eq_true (by omega)
        clear HTe
        go_enter Try.func28, Try.ntmps28
        go_wp2_with fail
        refine HN.out.mono ?_
        rintro e w1 ⟨rfl, hr1, hg1⟩
        have HF := Lib.hid (rffail_ok g 4 r w1 hr1 (by decide) (by decide))
        obtain ⟨A, c, hr1⟩ := hr1
        have k0 := hr1.rest
        go_wp2_with (go_at_call 47; refine HF.out.mono ?_; rintro e w2 ⟨rfl, hr2, hg2⟩)
        go_returns
        rw [HT2.out]
        exact ⟨rfl, ⟨4, hr2⟩, Lib.grownBy_trans hg1 hg2⟩
      · have HT2 : Hid (textS 65536 o = (r.take n, some (r.drop n))) := by show _ = _; rw [HTe.out]; simp [hlt]
        have hq : decide ((n : Int) > (r.length : Int)) = false := decide_eq_false (by omega)
        have hq2 : decide ((r.length : Int) < (n : Int)) = false := decide_eq_false (by omega)
        clear HTe
        go_enter Try.func28, Try.ntmps28
        go_wp2_with fail
        refine HN.out.mono ?_
        rintro e w1 ⟨rfl, hr1, hg1⟩
        obtain ⟨A, c, hr1⟩ := hr1
        have k0 := hr1.rest
        have kf := hr1.free 0
        have hcap := hr1.cap
        have hlen : (r.drop n).length = r.length - n := by simp
        have HR1 := Lib.hid hr1
        clear hr1
        have e1 : RB w1 A (r.take n) := fun k v hk => HR1.out.bytes k v (by
          rw [List.map_take, List.getElem?_take] at hk
          split at hk
          · exact hk
          · cases hk)
        have kc := RB.str (P := Try.prog) (w := w1) (src := 23) (dst := 9) Try.underlying23 Try.underlying5 Try.underlying9 e1 n c (by rw [List.length_take]; omega)
        go_wp2_with (first
          | (refine wpList_cut _ rfl (.tmp 30) (some (.tmp 31)) none none 23 rfl 5 _ 1 1 Try.underlying23 info_u8 A r.length c rfl n r.length c ⟨_, rfl⟩ rfl rfl (by simp) (by omega) (by omega) (by omega) ?_; intro A2 hA2))
        go_returns
        rw [HT2.out]
        have hr := HR1.out.put (A' := A2) (c' := c - n) (cs := r.drop n) (HR1.out.bytes.from hA2 hcap) (hA2.cap0 HR1.out.cap0) (by rw [hlen]; omega) (hA2.block HR1.out.block)
        rw [hlen] at hr
        exact ⟨rfl, ⟨_, _, hr⟩, Lib.grownBy_trans hg1 (Lib.grownBy_setCell w1 g 0 _)⟩
end Go.Proofs.Ytbeejmedekgjjaa
