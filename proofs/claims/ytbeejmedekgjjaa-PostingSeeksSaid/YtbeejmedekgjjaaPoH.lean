/- A coder's reader, whatever it has read: one word for both. -/
import Derived.Test.YtbeejmedekgjjaaPoA
import Derived.Test.YtbeejmedekgjjaaCoY
import Derived.Handy
namespace Go.Proofs.Ytbeejmedekgjjaa
open Go.RowKit
set_option linter.unusedVariables false
set_option linter.unusedSimpArgs false
/-- A reader with these bytes left; none: it has an error. -/
def RdS (w : World) (g : Nat) : Option (List UInt8) → Prop
  | some bs => RdOk w g bs
  | none => ∃ e, RdNo w g e
theorem RdS.lt {w : World} {g : Nat} {o : Option (List UInt8)} (h : RdS w g o) : g < w.heap.size := by
  cases o with
  | none => obtain ⟨e, h⟩ := h; exact h.lt
  | some bs => exact RdOk.lt h
theorem RdS.below {w w' : World} {g : Nat} {o : Option (List UInt8)} (h : RdS w g o) (hb : Below w.heap.size w w') : RdS w' g o := by
  cases o with
  | none => obtain ⟨e, h⟩ := h; exact ⟨e, h.alike hb⟩
  | some bs => exact RdOk.alike h hb
/-- A block without bytes: what is turned there turns no other reader's bytes. -/
def NoBytes (w : World) (k : Nat) : Prop := ∃ cs t f, w.heap[k]? = some (.cells cs t f) ∧ ∀ v ∈ cs.toList, ∀ x, v ≠ .int .u8 x
theorem NoBytes.cell {w : World} {k : Nat} (h : NoBytes w k) {a : Addr} (ha : a.block = k) (x : Int) : w.cell? a ≠ some (.int .u8 x) := by
  obtain ⟨cs, t, f, hk, hv⟩ := h
  intro hc
  obtain ⟨b, o, p⟩ := a
  simp only at ha
  subst ha
  simp only [World.cell?, hk] at hc
  have hc2 : cs[o]? = some (.int .u8 x) := by
    revert hc
    cases p <;> simp
  exact hv _ (Array.mem_toList_iff.2 (Array.mem_of_getElem? hc2)) x rfl
theorem RdS.apart {w w' : World} {g k : Nat} {o : Option (List UInt8)} (h : RdS w g o) (hk : NoBytes w k) (hne : g ≠ k) (hg : w.grownBy w' (some k)) : RdS w' g o := by
  cases o with
  | none => obtain ⟨e, h⟩ := h; exact ⟨e, h.same (hg.block g h.lt (by simpa using hne))⟩
  | some bs =>
    obtain ⟨A, c, h⟩ := h
    refine ⟨A, c, by rw [hg.block g h.lt (by simpa using hne)]; exact h.cells, fun j v hj => ?_, h.cap0, h.cap, h.block⟩
    obtain ⟨a, ha, hc⟩ := h.bytes j v hj
    refine ⟨a, ha, ?_⟩
    refine hg.cell hc (fun e => ?_)
    injection e with e
    rw [List.getElem?_map] at hj
    obtain ⟨b, _, rfl⟩ := Option.map_eq_some_iff.1 hj
    exact hk.cell e _ hc
theorem RdS.noBytes {w : World} {g : Nat} {o : Option (List UInt8)} (h : RdS w g o) : NoBytes w g := by
  cases o with
  | none => obtain ⟨e, h⟩ := h; exact ⟨_, _, _, h.cells, by simp⟩
  | some bs => obtain ⟨A, c, h⟩ := h; exact ⟨_, _, _, h.cells, by simp⟩
/-- Not too many bytes are left. -/
def OLen (o : Option (List UInt8)) : Prop := ∀ bs, o = some bs → bs.length ≤ 140737488355300
theorem OLen.none : OLen none := fun bs h => by cases h
theorem OLen.of {bs r : List UInt8} (h : OLen (some bs)) (hr : r.length ≤ bs.length) : OLen (some r) := fun q hq => by cases hq; exact Nat.le_trans hr (h bs rfl)
def numS (most : Int) : Option (List UInt8) → Nat × Option (List UInt8)
  | none => (0, none)
  | some bs => match numP most bs with
    | .ok x r => (x, some r)
    | .no _ => (0, none)
def textS (most : Int) (o : Option (List UInt8)) : List UInt8 × Option (List UInt8) :=
  match numS most o with
  | (_, none) => ([], none)
  | (n, some r) => if r.length < n then ([], none) else (r.take n, some (r.drop n))
def risingS (many top : Int) : Option (List UInt8) → List Int × Option (List UInt8)
  | none => ([], none)
  | some bs => match risingP many top bs with
    | .ok l r => (l, some r)
    | .no _ => ([], none)
theorem numS_ok {most : Int} {bs r : List UInt8} {x : Nat} (h : numP most bs = .ok x r) : numS most (some bs) = (x, some r) := by simp [numS, h]
theorem numS_no {most : Int} {bs : List UInt8} {e : Nat} (h : numP most bs = .no e) : numS most (some bs) = (0, none) := by simp [numS, h]
theorem risingS_ok {many top : Int} {bs r : List UInt8} {l : List Int} (h : risingP many top bs = .ok l r) : risingS many top (some bs) = (l, some r) := by simp [risingS, h]
theorem risingS_no {many top : Int} {bs : List UInt8} {e : Nat} (h : risingP many top bs = .no e) : risingS many top (some bs) = ([], none) := by simp [risingS, h]
theorem numS_len {most : Int} {o : Option (List UInt8)} (h : OLen o) : OLen (numS most o).2 := by
  cases o with
  | none => exact h
  | some bs =>
    cases hn : numP most bs with
    | ok x r => rw [numS_ok hn]; exact h.of (numP_ok hn).2.2
    | no e => rw [numS_no hn]; exact OLen.none
theorem textS_len {most : Int} {o : Option (List UInt8)} (h : OLen o) : OLen (textS most o).2 := by
  have h1 := numS_len (most := most) h
  unfold textS
  cases hn : numS most o with
  | mk n o1 =>
    rw [hn] at h1
    cases o1 with
    | none => exact OLen.none
    | some r =>
      simp only
      split
      · exact OLen.none
      · exact OLen.of h1 (by simp)
theorem risingS_len {many top : Int} {o : Option (List UInt8)} (h : OLen o) : OLen (risingS many top o).2 := by
  cases o with
  | none => exact h
  | some bs =>
    cases hn : risingP many top bs with
    | ok x r => rw [risingS_ok hn]; exact h.of (risingP_ok hn).2.2
    | no e => rw [risingS_no hn]; exact OLen.none
theorem snum (g : Nat) (most : Int) (o : Option (List UInt8)) (w : World) (h : RdS w g o) (hl : OLen o) :
    Calls Try.prog 34 #[.pointer (some ⟨g, 0, none⟩), .int .i64 most] w fun e w' => e = .returned (.int .i64 (numS most o).1) ∧ RdS w' g (numS most o).2 ∧ w.grownBy w' (some g) := by
  cases o with
  | none =>
    obtain ⟨c, h⟩ := h
    refine (num_no g c most w h).mono ?_
    rintro e w' ⟨rfl, rfl⟩
    exact ⟨rfl, ⟨c, h⟩, World.grownBy.refl _ _⟩
  | some bs =>
    refine (rdnum g most bs w h (hl bs rfl)).mono ?_
    rintro e w' ⟨⟨x, r, hx, rfl, hr⟩ | ⟨c, hx, rfl, hr⟩, hg⟩
    · rw [numS_ok hx]
      exact ⟨rfl, hr, hg⟩
    · rw [numS_no hx]
      exact ⟨rfl, ⟨c, hr⟩, hg⟩
theorem serr (g : Nat) (o : Option (List UInt8)) (w : World) (h : RdS w g o) :
    Calls Try.prog 39 #[.pointer (some ⟨g, 0, none⟩)] w fun e w' => ∃ c : Nat, e = .returned (.int .i64 c) ∧ (o.isSome = true → c = 0) ∧ (o.isSome = false → 0 < c) ∧ w = w' := by
  cases o with
  | none =>
    obtain ⟨c, h⟩ := h
    refine (err_no g c w h).mono ?_
    rintro e w' ⟨rfl, rfl⟩
    exact ⟨c, rfl, by simp, fun _ => h.pos, rfl⟩
  | some bs =>
    refine (rerrok g bs w h).mono ?_
    rintro e w' ⟨rfl, rfl⟩
    exact ⟨0, rfl, by simp, by simp, rfl⟩
set_option maxHeartbeats 800000 in
theorem rising_no (g c : Nat) (many top : Int) (w : World) (h : RdNo w g c) :
    Calls Try.prog 58 #[.pointer (some ⟨g, 0, none⟩), .int .i64 many, .int .i64 top] w fun e w' => e = .returned (.slice none 0 0) ∧ w = w' := by
  have HN := Lib.hid (num_no g c many w h)
  clear h
  go_enter Try.func58, Try.ntmps58
  go_wp2_with (go_at_call 34; refine HN.out.mono ?_; rintro e w1 ⟨rfl, rfl⟩)
  go_loopg [8, 14] 0 (fun r v i wr => i = .int .i64 0 ∧ v = .slice none 0 0 ∧ w = wr)
  case atStart => exact ⟨rfl, rfl, rfl⟩
  case round =>
    obtain ⟨rfl, rfl, rfl⟩ := hrel
    go_wp2
    go_returns
    exact ⟨rfl, rfl⟩
theorem srising (g : Nat) (many top : Int) (o : Option (List UInt8)) (w : World) (hmany : many ≤ 65536) (ht0 : -1 ≤ top) (ht1 : top ≤ 65536) (h : RdS w g o) (hl : OLen o) :
    Calls Try.prog 58 #[.pointer (some ⟨g, 0, none⟩), .int .i64 many, .int .i64 top] w fun e w' => ∃ v, e = .returned v ∧ OI w' w.heap.size v (risingS many top o).1 ∧ RdS w' g (risingS many top o).2 ∧ w.grownBy w' (some g) := by
  cases o with
  | none =>
    obtain ⟨c, h⟩ := h
    refine (rising_no g c many top w h).mono ?_
    rintro e w' ⟨rfl, rfl⟩
    exact ⟨_, rfl, World.ownsRow_nil _ _ _ _, ⟨c, h⟩, World.grownBy.refl _ _⟩
  | some bs =>
    refine (rdrising g many top bs w hmany ht0 ht1 h (hl bs rfl)).mono ?_
    rintro e w' ⟨v, l, rfl, hv, ⟨r, hx, hr⟩ | ⟨c, hx, rfl, hr⟩, hg⟩
    · rw [risingS_ok hx]
      exact ⟨v, rfl, hv, hr, hg⟩
    · rw [risingS_no hx]
      exact ⟨v, rfl, hv, ⟨c, hr⟩, hg⟩
set_option maxHeartbeats 1600000 in
theorem stext (g : Nat) (o : Option (List UInt8)) (w : World) (h : RdS w g o) (hl : OLen o) :
    Calls Try.prog 52 #[.pointer (some ⟨g, 0, none⟩), .int .i64 65536] w fun e w' => e = .returned (.string (str (textS 65536 o).1)) ∧ RdS w' g (textS 65536 o).2 ∧ w.grownBy w' (some g) := by
  have HN := Lib.hid (snum g 65536 o w h hl)
  have hol := numS_len (most := 65536) hl
  have hle : (numS 65536 o).1 ≤ 65536 := by
    cases o with
    | none => simp [numS]
    | some bs =>
      cases hn : numP 65536 bs with
      | ok x r => rw [numS_ok hn]; have := (numP_ok hn).2.1; simp only; omega
      | no e => rw [numS_no hn]; simp
  have HTe := Lib.hid (show textS 65536 o = match numS 65536 o with | (_, none) => ([], none) | (n, some r) => if r.length < n then ([], none) else (r.take n, some (r.drop n)) from rfl)
  cases hn : numS 65536 o with
  | mk n o1 =>
    rw [hn] at HN HTe hol hle
    simp only at HN HTe hol hle
    clear h hl hn
    cases o1 with
    | none =>
      have HT2 : Hid (textS 65536 o = ([], none)) := HTe.out
      clear HTe
      go_enter Try.func52, Try.ntmps52
      go_wp2_with (first
        | (go_at_call 34; refine HN.out.mono ?_; rintro e w1 ⟨rfl, ⟨c, hr1⟩, hg1⟩
           have HTk := Lib.hid (take_no g c (n : Int) w1 hr1)
           have kc := RB.str (P := Try.prog) (w := w1) (src := 23) (dst := 9) Try.underlying23 Try.underlying5 Try.underlying9 (A := none) (bs := []) (fun k v hk => by simp at hk) 0 0 rfl)
        | (go_at_call 56; refine HTk.out.mono ?_; rintro e w2 ⟨rfl, rfl⟩))
      go_returns
      rw [HT2.out]
      exact ⟨rfl, ⟨c, hr1⟩, hg1⟩
    | some r =>
      have hrl := hol r rfl
      by_cases hlt : r.length < n
      · have HT2 : Hid (textS 65536 o = ([], none)) := by show _ = _; rw [HTe.out]; simp [hlt]
        clear HTe
        go_enter Try.func52, Try.ntmps52
        go_wp2_with (first
          | (go_at_call 34; refine HN.out.mono ?_; rintro e w1 ⟨rfl, hr1, hg1⟩
             have HTk := Lib.hid (take_short g n r w1 hr1 hlt (by omega)))
          | (go_at_call 56; refine HTk.out.mono ?_; rintro e w2 ⟨rfl, hr2, hg2⟩
             have kc := RB.str (P := Try.prog) (w := w2) (src := 23) (dst := 9) Try.underlying23 Try.underlying5 Try.underlying9 (A := none) (bs := []) (fun k v hk => by simp at hk) 0 0 rfl))
        go_returns
        rw [HT2.out]
        exact ⟨rfl, ⟨4, hr2⟩, Lib.grownBy_trans hg1 hg2⟩
      · have HT2 : Hid (textS 65536 o = (r.take n, some (r.drop n))) := by show _ = _; rw [HTe.out]; simp [hlt]
        clear HTe
        go_enter Try.func52, Try.ntmps52
        go_wp2_with (first
          | (go_at_call 34; refine HN.out.mono ?_; rintro e w1 ⟨rfl, hr1, hg1⟩
             have HTk := Lib.hid (take_ok g n r w1 hr1 (by omega) (by omega)))
          | (go_at_call 56; refine HTk.out.mono ?_; rintro e w2 ⟨A2, rfl, hb2, hA2, hr2, hg2⟩
             have kc := RB.str (P := Try.prog) (w := w2) (src := 23) (dst := 9) Try.underlying23 Try.underlying5 Try.underlying9 hb2 n n (by rw [List.length_take]; omega)))
        go_returns
        rw [HT2.out]
        exact ⟨rfl, hr2, Lib.grownBy_trans hg1 hg2⟩
/-- Nothing wrong, and nothing left. -/
def overS : Option (List UInt8) → Bool
  | some [] => true
  | _ => false
theorem send (g : Nat) (o : Option (List UInt8)) (w : World) (h : RdS w g o) (hl : OLen o) :
    Calls Try.prog 40 #[.pointer (some ⟨g, 0, none⟩)] w fun e w' => ∃ c : Nat, e = .returned (.int .i64 c) ∧ (overS o = true → c = 0) ∧ (overS o = false → 0 < c) ∧ w = w' := by
  cases o with
  | none =>
    obtain ⟨c, h⟩ := h
    have HL := Lib.hid (left_no g c w h)
    have HE := Lib.hid (err_no g c w h)
    have hp := h.pos
    clear h
    go_enter Try.func40, Try.ntmps40
    go_wp2_with (first
      | (go_at_call 54; refine HL.out.mono ?_; rintro e w1 ⟨rfl, rfl⟩)
      | (go_at_call 39; refine HE.out.mono ?_; rintro e w1 ⟨rfl, rfl⟩))
    go_returns
    exact ⟨c, rfl, by simp [overS], fun _ => hp, rfl⟩
  | some bs =>
    have HL := Lib.hid (rleftok g bs w h)
    have HE := Lib.hid (rerrok g bs w h)
    clear h
    cases bs with
    | nil =>
      go_enter Try.func40, Try.ntmps40
      go_wp2_with (first
        | (go_at_call 54; refine HL.out.mono ?_; rintro e w1 ⟨rfl, rfl⟩)
        | (go_at_call 39; refine HE.out.mono ?_; rintro e w1 ⟨rfl, rfl⟩))
      go_returns
      exact ⟨0, rfl, by simp, by simp [overS], rfl⟩
    | cons b bs =>
      have hq : decide (((b :: bs).length : Int) > 0) = true := decide_eq_true (by simp)
      have hl2 : ((b :: bs).length : Int) > 0 := by simp
      generalize ((b :: bs).length : Int) = m at HL hq hl2
      go_enter Try.func40, Try.ntmps40
      go_wp2_with (first
        | (go_at_call 54; refine HL.out.mono ?_; rintro e w1 ⟨rfl, rfl⟩)
        | (go_at_call 39; refine HE.out.mono ?_; rintro e w1 ⟨rfl, rfl⟩))
      go_returns
      exact ⟨3, rfl, by simp [overS], by simp, rfl⟩
end Go.Proofs.Ytbeejmedekgjjaa
