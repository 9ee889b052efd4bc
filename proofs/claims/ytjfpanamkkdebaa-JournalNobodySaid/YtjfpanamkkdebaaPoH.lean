/- A coder's reader, whatever it has read: one word for both. -/
import Derived.Test.YtjfpanamkkdebaaCoX
import Derived.Handy
namespace Go.Proofs.Ytjfpanamkkdebaa
open Go.RowKit
set_option linter.unusedVariables false
set_option linter.unusedSimpArgs false
theorem RdOk.lt {w : World} {g : Nat} {bs : List UInt8} (h : RdOk w g bs) : g < w.heap.size := by
  obtain ⟨A, c, h⟩ := h
  exact h.lt
set_option maxHeartbeats 800000 in
theorem readok (A : Option Addr) (c : Nat) (bs : List UInt8) (w : World) (hm : bs.length ≤ 140737488355328) (hA : A = none → c = 0) (hr : RB w A bs) :
    Calls Try.prog 56 #[.slice A bs.length c] w fun e w' => ∃ g, e = .returned (.pointer (some ⟨g, 0, none⟩)) ∧ RdOk w' g bs ∧ w.heap.size ≤ g ∧ Below w.heap.size w w' := by
  have HML : Hid (maxLen = 9223372036854775807) := rfl
  go_enter Try.func56, Try.ntmps56
  go_wp2_with (at_builtin; refine wpList_app _ rfl _ _ 29 rfl w.heap.size 5 _ 1 1 Try.underlying29 info_u8 rfl (by decide) _ 0 [] rfl (World.ownsRow_nil _ _ _ _) A bs.length c (bs.map vb) rfl (by simp) hr (vbs_one bs) hA ?c1 ?c2 ?c3 ?_)
  case c1 => rw [HML.out]; omega
  case c2 => omega
  case c3 => exact Nat.le_refl _
  intro v1 w1 hown1 hg1 _
  have hb1 : Below w.heap.size w w1 := (Below.refl _ _).grown hg1 (Nat.le_refl _) (by intro k hk; cases hk)
  have ho1 : OB w1 w.heap.size v1 bs := OB.mk hown1 (by simp) (by simp)
  have hol := ho1
  unfold OB at hol
  obtain ⟨A1, c1, rfl, hl1, hA1⟩ := ho1.form
  go_wp2
  go_returns
  refine ⟨_, rfl, ⟨A1, c1, heap_alloc_new w1 _, (RB.of_own ho1).below ((Below.refl _ _).alloc (Nat.le_refl _) _), hA1, hl1, ?_⟩, hb1.size, hb1.alloc hb1.size _⟩
  intro a e
  subst e
  exact (World.ownsRow.lt hol a.block rfl).2
theorem rleftok (g : Nat) (bs : List UInt8) (w : World) (h : RdOk w g bs) :
    Calls Try.prog 57 #[.pointer (some ⟨g, 0, none⟩)] w fun e w' => e = .returned (.int .i64 bs.length) ∧ w = w' := by
  obtain ⟨A, c, h⟩ := h
  have h0 := h.rest
  go_enter Try.func57, Try.ntmps57
  go_wp2
  go_returns
  exact ⟨rfl, rfl⟩
theorem rerrok (g : Nat) (bs : List UInt8) (w : World) (h : RdOk w g bs) :
    Calls Try.prog 60 #[.pointer (some ⟨g, 0, none⟩)] w fun e w' => e = .returned (.int .i64 0) ∧ w = w' := by
  obtain ⟨A, c, h⟩ := h
  have h1 := h.err
  have h2 := h.made
  go_enter Try.func60, Try.ntmps60
  go_wp2
  go_returns
  exact ⟨rfl, rfl⟩
/-- A reader with these bytes left; none: it has an error. -/
def RdS (w : World) (g : Nat) : Option (List UInt8) → Prop
  | some bs => RdOk w g bs
  | none => ∃ e, RdNo w g e
theorem RdS.lt {w : World} {g : Nat} {o : Option (List UInt8)} (h : RdS w g o) : g < w.heap.size := by
  cases o with
  | none => obtain ⟨e, h⟩ := h; exact h.lt
  | some bs => exact RdOk.lt h
theorem RdS.below {w w' : World} {g : Nat} {o : Option (List UInt8)} (h : RdS w g o) (hb : Below w.heap.size w w') : RdS w' g o := by
  cases o with
  | none => obtain ⟨e, h⟩ := h; exact ⟨e, h.alike hb⟩
  | some bs => exact RdOk.alike h hb
/-- A block without bytes: what is turned there turns no other reader's bytes. -/
def NoBytes (w : World) (k : Nat) : Prop := ∃ cs t f, w.heap[k]? = some (.cells cs t f) ∧ ∀ v ∈ cs.toList, ∀ x, v ≠ .int .u8 x
theorem NoBytes.cell {w : World} {k : Nat} (h : NoBytes w k) {a : Addr} (ha : a.block = k) (x : Int) : w.cell? a ≠ some (.int .u8 x) := by
  obtain ⟨cs, t, f, hk, hv⟩ := h
  intro hc
  obtain ⟨b, o, p⟩ := a
  simp only at ha
  subst ha
  simp only [World.cell?, hk] at hc
  have hc2 : cs[o]? = some (.int .u8 x) := by
    revert hc
    cases p <;> simp
  exact hv _ (Array.mem_toList_iff.2 (Array.mem_of_getElem? hc2)) x rfl
theorem RdS.apart {w w' : World} {g k : Nat} {o : Option (List UInt8)} (h : RdS w g o) (hk : NoBytes w k) (hne : g ≠ k) (hg : w.grownBy w' (some k)) : RdS w' g o := by
  cases o with
  | none => obtain ⟨e, h⟩ := h; exact ⟨e, h.same (hg.block g h.lt (by simpa using hne))⟩
  | some bs =>
    obtain ⟨A, c, h⟩ := h
    refine ⟨A, c, by rw [hg.block g h.lt (by simpa using hne)]; exact h.cells, fun j v hj => ?_, h.cap0, h.cap, h.block⟩
    obtain ⟨a, ha, hc⟩ := h.bytes j v hj
    refine ⟨a, ha, ?_⟩
    refine hg.cell hc (fun e => ?_)
    injection e with e
    rw [List.getElem?_map] at hj
    obtain ⟨b, _, rfl⟩ := Option.map_eq_some_iff.1 hj
    exact hk.cell e _ hc
theorem RdS.noBytes {w : World} {g : Nat} {o : Option (List UInt8)} (h : RdS w g o) : NoBytes w g := by
  cases o with
  | none => obtain ⟨e, h⟩ := h; exact ⟨_, _, _, h.cells, by simp⟩
  | some bs => obtain ⟨A, c, h⟩ := h; exact ⟨_, _, _, h.cells, by simp⟩
/-- Not too many bytes are left. -/
def OLen (o : Option (List UInt8)) : Prop := ∀ bs, o = some bs → bs.length ≤ 140737488355300
theorem OLen.none : OLen none := fun bs h => by cases h
theorem OLen.of {bs r : List UInt8} (h : OLen (some bs)) (hr : r.length ≤ bs.length) : OLen (some r) := fun q hq => by cases hq; exact Nat.le_trans hr (h bs rfl)
def numS (most : Int) : Option (List UInt8) → Nat × Option (List UInt8)
  | none => (0, none)
  | some bs => match numP most bs with
    | .ok x r => (x, some r)
    | .no _ => (0, none)
def textS (most : Int) (o : Option (List UInt8)) : List UInt8 × Option (List UInt8) :=
  match numS most o with
  | (_, none) => ([], none)
  | (n, some r) => if r.length < n then ([], none) else (r.take n, some (r.drop n))
theorem numS_ok {most : Int} {bs r : List UInt8} {x : Nat} (h : numP most bs = .ok x r) : numS most (some bs) = (x, some r) := by simp [numS, h]
theorem numS_no {most : Int} {bs : List UInt8} {e : Nat} (h : numP most bs = .no e) : numS most (some bs) = (0, none) := by simp [numS, h]
theorem numS_len {most : Int} {o : Option (List UInt8)} (h : OLen o) : OLen (numS most o).2 := by
  cases o with
  | none => exact h
  | some bs =>
    cases hn : numP most bs with
    | ok x r => rw [numS_ok hn]; exact h.of (numP_ok hn).2.2
    | no e => rw [numS_no hn]; exact OLen.none
theorem textS_len {most : Int} {o : Option (List UInt8)} (h : OLen o) : OLen (textS most o).2 := by
  have h1 := numS_len (most := most) h
  unfold textS
  cases hn : numS most o with
  | mk n o1 =>
    rw [hn] at h1
    cases o1 with
    | none => exact OLen.none
    | some r =>
      simp only
      split
      · exact OLen.none
      · exact OLen.of h1 (by simp)
theorem snum (g : Nat) (most : Int) (o : Option (List UInt8)) (w : World) (h : RdS w g o) (hl : OLen o) :
    Calls Try.prog 73 #[.pointer (some ⟨g, 0, none⟩), .int .i64 most] w fun e w' => e = .returned (.int .i64 (numS most o).1) ∧ RdS w' g (numS most o).2 ∧ w.grownBy w' (some g) := by
  cases o with
  | none =>
    obtain ⟨c, h⟩ := h
    refine (num_no g c most w h).mono ?_
    rintro e w' ⟨rfl, rfl⟩
    exact ⟨rfl, ⟨c, h⟩, World.grownBy.refl _ _⟩
  | some bs =>
    refine (rdnum g most bs w h (hl bs rfl)).mono ?_
    rintro e w' ⟨⟨x, r, hx, rfl, hr⟩ | ⟨c, hx, rfl, hr⟩, hg⟩
    · rw [numS_ok hx]
      exact ⟨rfl, hr, hg⟩
    · rw [numS_no hx]
      exact ⟨rfl, ⟨c, hr⟩, hg⟩
theorem serr (g : Nat) (o : Option (List UInt8)) (w : World) (h : RdS w g o) :
    Calls Try.prog 60 #[.pointer (some ⟨g, 0, none⟩)] w fun e w' => ∃ c : Nat, e = .returned (.int .i64 c) ∧ (o.isSome = true → c = 0) ∧ (o.isSome = false → 0 < c) ∧ w = w' := by
  cases o with
  | none =>
    obtain ⟨c, h⟩ := h
    refine (err_no g c w h).mono ?_
    rintro e w' ⟨rfl, rfl⟩
    exact ⟨c, rfl, by simp, fun _ => h.pos, rfl⟩
  | some bs =>
    refine (rerrok g bs w h).mono ?_
    rintro e w' ⟨rfl, rfl⟩
    exact ⟨0, rfl, by simp, by simp, rfl⟩
set_option maxHeartbeats 1600000 in
theorem stext (g : Nat) (o : Option (List UInt8)) (w : World) (h : RdS w g o) (hl : OLen o) :
    Calls Try.prog 58 #[.pointer (some ⟨g, 0, none⟩), .int .i64 65536] w fun e w' => e = .returned (.string (str (textS 65536 o).1)) ∧ RdS w' g (textS 65536 o).2 ∧ w.grownBy w' (some g) := by
  have HN := Lib.hid (snum g 65536 o w h hl)
  have hol := numS_len (most := 65536) hl
  have hle : (numS 65536 o).1 ≤ 65536 := by
    cases o with
    | none => simp [numS]
    | some bs =>
      cases hn : numP 65536 bs with
      | ok x r => rw [numS_ok hn]; have := (numP_ok hn).2.1; simp only; omega
      | no e => rw [numS_no hn]; simp
  have HTe := Lib.hid (show textS 65536 o = match numS 65536 o with | (_, none) => ([], none) | (n, some r) => if r.length < n then ([], none) else (r.take n, some (r.drop n)) from rfl)
  cases hn : numS 65536 o with
  | mk n o1 =>
    rw [hn] at HN HTe hol hle
    simp only at HN HTe hol hle
    clear h hl hn
    cases o1 with
    | none =>
      have HT2 : Hid (textS 65536 o = ([], none)) := HTe.out
      clear HTe
      go_enter Try.func58, Try.ntmps58
      go_wp2_with (first
        | (go_at_call 73; refine HN.out.mono ?_; rintro e w1 ⟨rfl, ⟨c, hr1⟩, hg1⟩
           have HTk := Lib.hid (take_no g c (n : Int) w1 hr1)
           have kc := RB.str (P := Try.prog) (w := w1) (src := 29) (dst := 9) Try.underlying29 Try.underlying5 Try.underlying9 (A := none) (bs := []) (fun k v hk => by simp at hk) 0 0 rfl)
        | (go_at_call 72; refine HTk.out.mono ?_; rintro e w2 ⟨rfl, rfl⟩))
      go_returns
      rw [HT2.out]
      exact ⟨rfl, ⟨c, hr1⟩, hg1⟩
    | some r =>
      have hrl := hol r rfl
      by_cases hlt : r.length < n
      · have HT2 : Hid (textS 65536 o = ([], none)) := by show _ = _; rw [HTe.out]; simp [hlt]
        clear HTe
        go_enter Try.func58, Try.ntmps58
        go_wp2_with (first
          | (go_at_call 73; refine HN.out.mono ?_; rintro e w1 ⟨rfl, hr1, hg1⟩
             have HTk := Lib.hid (take_short g n r w1 hr1 hlt (by omega)))
          | (go_at_call 72; refine HTk.out.mono ?_; rintro e w2 ⟨rfl, hr2, hg2⟩
             have kc := RB.str (P := Try.prog) (w := w2) (src := 29) (dst := 9) Try.underlying29 Try.underlying5 Try.underlying9 (A := none) (bs := []) (fun k v hk => by simp at hk) 0 0 rfl))
        go_returns
        rw [HT2.out]
        exact ⟨rfl, ⟨4, hr2⟩, Lib.grownBy_trans hg1 hg2⟩
      · have HT2 : Hid (textS 65536 o = (r.take n, some (r.drop n))) := by show _ = _; rw [HTe.out]; simp [hlt]
        clear HTe
        go_enter Try.func58, Try.ntmps58
        go_wp2_with (first
          | (go_at_call 73; refine HN.out.mono ?_; rintro e w1 ⟨rfl, hr1, hg1⟩
             have HTk := Lib.hid (take_ok g n r w1 hr1 (by omega) (by omega)))
          | (go_at_call 72; refine HTk.out.mono ?_; rintro e w2 ⟨A2, rfl, hb2, hA2, hr2, hg2⟩
             have kc := RB.str (P := Try.prog) (w := w2) (src := 29) (dst := 9) Try.underlying29 Try.underlying5 Try.underlying9 hb2 n n (by rw [List.length_take]; omega)))
        go_returns
        rw [HT2.out]
        exact ⟨rfl, hr2, Lib.grownBy_trans hg1 hg2⟩
end Go.Proofs.Ytjfpanamkkdebaa
