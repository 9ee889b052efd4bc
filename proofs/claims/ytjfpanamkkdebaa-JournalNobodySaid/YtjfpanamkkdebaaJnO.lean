/- A log opened. -/
import Derived.Test.YtjfpanamkkdebaaJnN
namespace Go.Proofs.Ytjfpanamkkdebaa
open Go.RowKit
set_option linter.unusedVariables false
set_option linter.unusedSimpArgs false
/-- What a device's newest log has: its snapshot, and the records. -/
def Dsk.hasP (d : Dsk) : List (List UInt8) := partsP (d.streamFrom (d.foundS 2).hf (d.foundS 2).ep d.room 0).length (d.streamFrom (d.foundS 2).hf (d.foundS 2).ep d.room 0)
def openP (d : Dsk) : Laid :=
  if d.dead then ⟨9, d, 0, 0⟩
  else if d.kept.length < 8 then ⟨3, d, 0, 0⟩
  else if (d.foundS 2).ep = 0 then ⟨3, d, 0, 0⟩
  else match d.hasP with
    | [] => ⟨3, d, 0, 0⟩
    | s :: rs => layP (d.foundS 2).hf (d.foundS 2).ep (d.foundS 2).sl d s rs
theorem Dsk.streamFrom_le (d : Dsk) (hf ep : Nat) : ∀ n i, (d.streamFrom hf ep n i).length ≤ 255 * n
  | 0, i => by unfold Dsk.streamFrom; simp
  | n + 1, i => by
    have h1 := d.streamFrom_le hf ep n (i + 1)
    have h2 := d.sheet_bytes (d.place hf i : Nat)
    unfold Dsk.streamFrom
    split
    · rw [List.length_append]; omega
    · simp
theorem rawP_len {bs r : List UInt8} {x : Nat} (h : rawP bs = .ok x r) : bs.length = r.length + need x + 1 := by
  cases bs with
  | nil => cases h
  | cons b bs =>
    rw [rawP_cons] at h
    split at h
    · cases h
    · rename_i hl
      split at h
      · rename_i hn
        injection h with h1 h
        subst h
        rw [← h1, hn, List.length_drop, List.length_cons]
        omega
      · cases h
theorem textS_len2 {bs r : List UInt8} (h : (textS 262148 (some bs)).2 = some r) : bs.length = r.length + need (textS 262148 (some bs)).1.length + 1 + (textS 262148 (some bs)).1.length ∧ (textS 262148 (some bs)).1.length ≤ 262148 := by
  unfold textS at h ⊢
  cases hn : numP 262148 bs with
  | no e => rw [numS_no hn] at h; cases h
  | ok x q =>
    rw [numS_ok hn] at h ⊢
    dsimp only at h ⊢
    have hx := (numP_ok hn).2.1
    have hq : rawP bs = .ok x q := by
      unfold numP at hn
      split at hn
      · rename_i y s hy
        split at hn
        · cases hn
        · injection hn with e1 e2
          subst e1 e2
          exact hy
      · cases hn
    have hr := rawP_len hq
    split at h
    · cases h
    · rename_i hlt
      rw [if_neg hlt]
      injection h with h
      subst h
      have e : (q.take x).length = x := by rw [List.length_take]; omega
      rw [e, List.length_drop]
      omega
theorem opened_len {s : List UInt8} (h : (opened s).2 = 0) : s.length = (opened s).1.length + 4 ∧ sealed (opened s).1 = s := by
  unfold opened at h ⊢
  split
  · rename_i hl; rw [if_pos hl] at h; cases h
  · rename_i hl
    rw [if_neg hl] at h
    split
    · rename_i hc
      refine ⟨by rw [List.length_drop]; omega, ?_⟩
      unfold sealed
      rw [← hc, List.take_append_drop]
    · rename_i hc; rw [if_neg hc] at h; cases h
theorem partsP_len : ∀ (f : Nat) (bs : List UInt8), ((partsP f bs).flatMap framedP).length ≤ bs.length ∧ ∀ r ∈ partsP f bs, r.length ≤ 262144
  | 0, bs => by unfold partsP; simp
  | f + 1, bs => by
    unfold partsP
    split
    · simp
    · cases ht : (textS 262148 (some bs)).2 with
      | none => simp
      | some r =>
        dsimp only
        have hl := textS_len2 ht
        split
        · rename_i ho
          have h1 := opened_len ho
          have ih := partsP_len f r
          constructor
          · rw [List.flatMap_cons, List.length_append, framedP_length]
            have : (opened (textS 262148 (some bs)).1).1.length + 4 = (textS 262148 (some bs)).1.length := by omega
            rw [this]
            omega
          · intro q hq
            rcases List.mem_cons.1 hq with rfl | hq
            · omega
            · exact ih.2 q hq
        · simp
theorem Dsk.hasP_len (d : Dsk) (s : List UInt8) (rs : List (List UInt8)) (h : d.hasP = s :: rs) : (allP s rs).length ≤ (d.streamFrom (d.foundS 2).hf (d.foundS 2).ep d.room 0).length ∧ s.length ≤ 262144 ∧ ∀ r ∈ rs, r.length ≤ 262144 := by
  have h1 := partsP_len (d.streamFrom (d.foundS 2).hf (d.foundS 2).ep d.room 0).length (d.streamFrom (d.foundS 2).hf (d.foundS 2).ep d.room 0)
  unfold Dsk.hasP at h
  rw [h] at h1
  refine ⟨?_, h1.2 s List.mem_cons_self, fun r hr => h1.2 r (List.mem_cons_of_mem _ hr)⟩
  have h2 := h1.1
  rw [List.flatMap_cons] at h2
  exact h2
set_option maxRecDepth 100000 in
set_option maxHeartbeats 3200000 in
theorem open_any (g k m c : Nat) (d : Dsk) (w : World) (hd : DkAt w g k m c d) :
    Calls Try.prog 12 #[.pointer (some ⟨g, 0, none⟩)] w fun e w' =>
      ∃ R, openP d = R ∧ DkAt w' g k m c R.d ∧ Only w w' [g, k, m] ∧
        ((R.e ≠ 0 ∧ e = .returned (.tuple #[.pointer none, .int .i64 R.e])) ∨
         (R.e = 0 ∧ ∃ (x : Nat) (vs rv : Value) (s : List UInt8) (rs : List RSl), e = .returned (.tuple #[.pointer (some ⟨x, 0, none⟩), .int .i64 0]) ∧ w.heap.size ≤ x ∧ d.hasP = s :: rs.map RSl.bs ∧
           LgAt w' x (1 - (d.foundS 2).hf) R.ep (1 - (d.foundS 2).sl) R.pg [] g k m c R.d vs rv rs.length ∧ OB w' w.heap.size vs s ∧ RecsAt w' rv rs ∧ (∀ j, rv.ownBlock = some j → w.heap.size ≤ j))) := by
  have HSz := Lib.hid (size_any g k m c d w hd)
  have HDe := Lib.hid (dead_any g k m c d w hd)
  have hpos := hd.ok.pos
  have hq0 : ((d.kept.length : Int) == 0) = false := by rw [beq_eq_false_iff_ne]; omega
  obtain ⟨R, hR⟩ : ∃ R, openP d = R := ⟨_, rfl⟩
  have HR := Lib.hid hR
  have HD := Lib.hid hd
  obtain ⟨N, hN⟩ : ∃ N, d.kept.length = N := ⟨_, rfl⟩
  rw [hN] at HSz hpos hq0
  have HN := Lib.hid hN
  clear hR hd hN
  cases hdead : d.dead with
  | true =>
    rw [hdead] at HDe
    have HR2 := Lib.hid (show R = ⟨9, d, 0, 0⟩ by rw [← HR.out]; unfold openP; rw [hdead]; rfl)
    clear hdead
    go_enter Try.func12, Try.ntmps12
    go_wp2_with (first
      | (go_at_call 11; refine HSz.out.mono ?_; rintro e w' ⟨rfl, rfl⟩)
      | (go_at_call 35; refine HDe.out.mono ?_; rintro e w' ⟨rfl, rfl⟩))
    go_returns
    refine ⟨R, HR.out, ?_⟩
    rw [HR2.out]
    exact ⟨HD.out, Only.refl _ _, .inl ⟨(fun h => by cases h), rfl⟩⟩
  | false =>
    rw [hdead] at HDe
    by_cases h8 : N < 8
    · have h81 : decide ((N : Int) < 8) = true := decide_eq_true (by omega)
      have HR2 := Lib.hid (show R = ⟨3, d, 0, 0⟩ by rw [← HR.out]; unfold openP; rw [hdead, HN.out, if_neg (by simp), if_pos h8])
      clear hdead
      go_enter Try.func12, Try.ntmps12
      go_wp2_with (first
        | (go_at_call 11; refine HSz.out.mono ?_; rintro e w' ⟨rfl, rfl⟩)
        | (go_at_call 35; refine HDe.out.mono ?_; rintro e w' ⟨rfl, rfl⟩))
      go_returns
      refine ⟨R, HR.out, ?_⟩
      rw [HR2.out]
      exact ⟨HD.out, Only.refl _ _, .inl ⟨(fun h => by cases h), rfl⟩⟩
    · have h81 : decide ((N : Int) < 8) = false := decide_eq_false (by omega)
      have h8N : 8 ≤ d.kept.length := by rw [HN.out]; omega
      have HFo := Lib.hid (found_any g k m c d w HD.out h8N hdead)
      have hfk := d.foundS_ok 2
      have hstl := d.streamFrom_le (d.foundS 2).hf (d.foundS 2).ep d.room 0
      have hrl := d.room_le HD.out.ok.most
      have hSt := fun W (hb : Below w.heap.size w W) => stream_any g k m c d (d.foundS 2).hf (d.foundS 2).ep (d.foundS 2).sl W (HD.out.below hb) h8N hdead hfk.1 hfk.2.1
      have hop : openP d = if (d.foundS 2).ep = 0 then ⟨3, d, 0, 0⟩ else match d.hasP with
          | [] => ⟨3, d, 0, 0⟩
          | s :: rs => layP (d.foundS 2).hf (d.foundS 2).ep (d.foundS 2).sl d s rs := by
        unfold openP
        rw [hdead, if_neg (by simp), if_neg (by omega)]
      rw [HR.out] at hop
      have hhl := d.hasP_len
      have hhe : d.hasP = partsP (d.streamFrom (d.foundS 2).hf (d.foundS 2).ep d.room 0).length (d.streamFrom (d.foundS 2).hf (d.foundS 2).ep d.room 0) := rfl
      obtain ⟨p, hp⟩ : ∃ p, d.foundS 2 = p := ⟨_, rfl⟩
      rw [hp] at HFo hfk hstl hSt hop hhl hhe ⊢
      obtain ⟨ph, pe, ps⟩ := p
      dsimp only at HFo hfk hstl hSt hop hhl hhe ⊢
      obtain ⟨st, hst⟩ : ∃ st, d.streamFrom ph pe d.room 0 = st := ⟨_, rfl⟩
      rw [hst] at hstl hSt hhl hhe
      have HSt := Lib.hid hSt
      have HOp := Lib.hid hop
      have HHl := Lib.hid hhl
      have HHe := Lib.hid hhe
      have HH := Lib.hid (⟨h8N, hst, hp⟩ : _ ∧ _ ∧ _)
      clear hSt hop hhl hhe hst hp hdead
      by_cases hpe : pe = 0
      · subst hpe
        have HR2 := Lib.hid (show R = ⟨3, d, 0, 0⟩ by rw [HOp.out, if_pos rfl])
        clear HOp
        go_enter Try.func12, Try.ntmps12
        go_wp2_with (first
          | (go_at_call 11; refine HSz.out.mono ?_; rintro e w' ⟨rfl, rfl⟩)
          | (go_at_call 35; refine HDe.out.mono ?_; rintro e w' ⟨rfl, rfl⟩)
          | (go_at_call 36; refine HFo.out.mono ?_; rintro e w1 ⟨rfl, hb1⟩))
        go_returns
        refine ⟨R, HR.out, ?_⟩
        rw [HR2.out]
        have hbE := hb1.alloc hb1.size (.cells #[.int .i64 ph, .int .i64 0, .int .i64 ps] 61)
        exact ⟨HD.out.below hbE, .of_below hbE _, .inl ⟨(fun h => by cases h), rfl⟩⟩
      · have hpp : decide (0 < pe) = true := decide_eq_true (by omega)
        rw [hpp] at HFo
        go_enter Try.func12, Try.ntmps12
        go_wp2_with (first
          | (go_at_call 11; refine HSz.out.mono ?_; rintro e w' ⟨rfl, rfl⟩)
          | (go_at_call 35; refine HDe.out.mono ?_; rintro e w' ⟨rfl, rfl⟩)
          | (go_at_call 36; refine HFo.out.mono ?_; rintro e w1 ⟨rfl, hb1⟩))
        have hbA : Below w.heap.size w (w1.alloc (.cells #[.int .i64 ph, .int .i64 pe, .int .i64 ps] 61)) := hb1.alloc hb1.size _
        have hzA := heap_alloc_new w1 (.cells #[.int .i64 ph, .int .i64 pe, .int .i64 ps] 61)
        have hw1 := hb1.size
        generalize w1.alloc (.cells #[.int .i64 ph, .int .i64 pe, .int .i64 ps] 61) = wA at *
        generalize w1.heap.size = X4 at *
        have hlA := blk_lt hzA
        refine (HSt.out wA hbA).mono ?_
        rintro e w2 ⟨v2, rfl, ho2, hb2⟩
        obtain ⟨A2, c2, rfl, hc2, hA2⟩ := OB.form ho2
        have HPa := Lib.hid (parts_any A2 c2 st w2 (by omega) hA2 (RB.of_own ho2))
        have HB2 := Lib.hid (⟨hbA, hb2, hzA⟩ : _ ∧ _ ∧ _)
        clear HSt HFo HSz HDe hbA ho2 hb2 hb1 hzA
        go_wp2_with fail
        refine HPa.out.mono ?_
        rintro e w3 ⟨v3, rs, rfl, hown3, hok3, hrs3, hb3⟩
        have HHas := Lib.hid (show d.hasP = rs.map RSl.bs by rw [hrs3, HHe.out])
        have hbE : Below w.heap.size w w3 := HB2.out.1.trans ((HB2.out.2.1.trans (hb3.mono HB2.out.2.1.size)).mono HB2.out.1.size)
        have hz3 := ((HB2.out.2.1.trans (hb3.mono HB2.out.2.1.size)).block X4 hlA).trans HB2.out.2.2
        have hsz := hb3.size
        have hszA := HB2.out.1.size
        have hsz2 := HB2.out.2.1.size
        obtain ⟨A3, c3, rfl, hc3⟩ := own_form hown3
        cases rs with
        | nil =>
          have HR2 := Lib.hid (show R = ⟨3, d, 0, 0⟩ by rw [HOp.out, if_neg hpe, HHas.out]; rfl)
          have HF := Lib.hid hbE
          clear HOp hown3 hok3 hrs3 hb3 hbE hz3
          simp only [List.length_nil]
          go_wp2_with fail
          go_returns
          refine ⟨R, HR.out, ?_⟩
          rw [HR2.out]
          exact ⟨HD.out.below HF.out, .of_below HF.out _, .inl ⟨(fun h => by cases h), rfl⟩⟩
        | cons r rs =>
          have hq3 : (((r :: rs).length : Int) == 0) = false := by rw [beq_eq_false_iff_ne]; simp only [List.length_cons]; omega
          have hq4 : ¬ (((r :: rs).length : Int) = 0) := by simp only [List.length_cons]; omega
          have HLy := Lib.hid (show R = layP ph pe ps d r.bs (rs.map RSl.bs) by rw [HOp.out, if_neg hpe, HHas.out]; rfl)
          clear HOp
          obtain ⟨g3, c3', e3, hg3, -⟩ := own_pos hown3 (by simp)
          injection e3 with e31 e32 e33
          subst e31 e33
          have hokr := hok3 r List.mem_cons_self
          obtain ⟨rA, rc, rb⟩ := r
          unfold RSl.v at hokr
          dsimp only at hokr HLy
          obtain ⟨rA', rc', er, hrc, hrA⟩ := OB.form hokr
          injection er with er1 er2 er3
          subst er1 er3
          have hbL : Below w3.heap.size w3 (w3.alloc (.cells #[.int .i64 ph, .int .i64 pe, .int .i64 ps, .int .i64 0, .slice none 0 0, .pointer (some ⟨g, 0, none⟩), .slice none 0 0, .slice none 0 0, .int .i64 0] 65)) := (Below.refl _ _).alloc (Nat.le_refl _) _
          have hzL := heap_alloc_new w3 (.cells #[.int .i64 ph, .int .i64 pe, .int .i64 ps, .int .i64 0, .slice none 0 0, .pointer (some ⟨g, 0, none⟩), .slice none 0 0, .slice none 0 0, .int .i64 0] 65)
          have hbD := hbL.drew
          have hbX := hbE.trans (hbD.mono hbE.size)
          have hcx : (w3.alloc (.cells #[.int .i64 ph, .int .i64 pe, .int .i64 ps, .int .i64 0, .slice none 0 0, .pointer (some ⟨g, 0, none⟩), .slice none 0 0, .slice none 0 0, .int .i64 0] 65)).drew.cell? ⟨g3, 0, none⟩ = some (.slice rA rb.length rc) := by
            have h1 : w3.cell? ⟨g3, 0, none⟩ = some (.slice rA rb.length rc) := (World.ownsRow.cellAt hown3 0 (by simp)).trans rfl
            exact (hbD.cell (World.block_lt_of_cell? _ _ h1)).trans h1
          obtain ⟨A5, hA5⟩ : ∃ A5, A5 = if c3 = 1 then some (⟨g3, 0, none⟩ : Addr) else some ⟨g3, 1, none⟩ := ⟨_, rfl⟩
          have hcut : CutAt (some ⟨g3, 0, none⟩) A5 1 c3 1 := by unfold CutAt; rw [hA5]; rfl
          have hra := RowFrom.drop (RowFrom.of_own hown3) hcut (by simp)
          simp only [List.map_cons, List.drop_succ_cons, List.drop_zero, List.length_cons, Nat.add_sub_cancel] at hra
          have hrecs : RecsAt w3 (.slice A5 rs.length (c3 - 1)) rs := ⟨hra, fun q hq => (hok3 q (List.mem_cons_of_mem _ hq)).mono (Nat.zero_le _)⟩
          have hg3D : ∀ j, (Value.slice A5 rs.length (c3 - 1)).ownBlock = some j → w.heap.size ≤ j := by
            intro j hj
            have : j = g3 := by
              rw [hA5] at hj
              split at hj <;> (injection hj with hj; exact hj.symm)
            omega
          have hzLD : LgC (w3.alloc (.cells #[.int .i64 ph, .int .i64 pe, .int .i64 ps, .int .i64 0, .slice none 0 0, .pointer (some ⟨g, 0, none⟩), .slice none 0 0, .slice none 0 0, .int .i64 0] 65)).drew w3.heap.size ph pe ps 0 (.slice none 0 0) g (.slice none 0 0) (.slice none 0 0) 0 := ⟨hzL⟩
          have hle := HHl.out rb (rs.map RSl.bs) HHas.out
          have hLy := lay_any w3.heap.size ph pe ps 0 _ g k m c d _ _ 0 rA rc rb (.slice A5 rs.length (c3 - 1)) rs _ hzLD (HD.out.below hbX) HH.out.1 hfk.1 (by omega) hfk.2.1 ((RB.of_own hokr).below hbD) hrA hrc (by omega) (hrecs.below hbD) (fun q hq => by have := hle.2.2 q.bs (List.mem_map_of_mem hq); omega) (by omega)
          have hapart : ∀ j cs f, w3.heap[j]? = some (.cells cs 29 f) → j ∉ [g, k, m] := fun j cs f hj => (HD.out.below hbE).apart hj (by decide) (by decide)
          have hg3b := own_blk hown3 g3 rfl
          have hg3n : g3 ∉ [g, k, m] := by obtain ⟨cs3, h⟩ := hg3b; exact hapart _ _ _ h
          have hg3l : g3 < w3.heap.size := (World.ownsRow.lt hown3 g3 rfl).2
          have hLz : Calls Try.prog 39 #[.pointer (some ⟨w3.heap.size, 0, none⟩), .slice rA rb.length rc, .slice A5 rs.length (c3 - 1)] (w3.alloc (.cells #[.int .i64 ph, .int .i64 pe, .int .i64 ps, .int .i64 0, .slice none 0 0, .pointer (some ⟨g, 0, none⟩), .slice none 0 0, .slice none 0 0, .int .i64 0] 65)).drew fun e w' =>
              ∃ pv : Value, e = .returned (.tuple #[pv, .int .i64 R.e]) ∧ w'.cell? ⟨g3, 0, none⟩ = some (.slice rA rb.length rc) ∧ Hid (DkAt w' g k m c R.d ∧ Only w w' [g, k, m] ∧ ((R.e ≠ 0 ∧ pv = .pointer none) ∨ (R.e = 0 ∧ ∃ (x : Nat) (vs : Value), pv = .pointer (some ⟨x, 0, none⟩) ∧ w.heap.size ≤ x ∧ LgAt w' x (1 - ph) R.ep (1 - ps) R.pg [] g k m c R.d vs (.slice A5 rs.length (c3 - 1)) rs.length ∧ OB w' w.heap.size vs rb ∧ RecsAt w' (.slice A5 rs.length (c3 - 1)) rs))) := by
            refine hLy.mono ?_
            rintro e w7 ⟨R2, hR2, hd7, ho7, hcase⟩
            obtain rfl : R2 = R := by rw [← hR2]; exact HLy.out.symm
            have hc7 : w7.cell? ⟨g3, 0, none⟩ = some (.slice rA rb.length rc) := (World.cell?_of_block (a := ⟨g3, 0, none⟩) (ho7.block g3 (Nat.lt_of_lt_of_le hg3l hbD.size) hg3n)).trans hcx
            have ho : Only w w7 [g, k, m] := (Only.of_below hbX _).trans ho7
            have hrec7 := (hrecs.below hbD).disk (HD.out.below hbX) ho7
            rcases hcase with ⟨hne, rfl⟩ | ⟨h0, x, vs, rfl, hx, hlg, hob⟩
            · exact ⟨_, rfl, hc7, hd7, ho, .inl ⟨hne, rfl⟩⟩
            · exact ⟨_, by rw [h0]; rfl, hc7, hd7, ho, .inr ⟨h0, x, vs, rfl, Nat.le_trans hbX.size hx, hlg, own_mono_base hob hbX.size, hrec7⟩⟩
          have HLz := Lib.hid hLz
          have z40 : w3.cell? ⟨X4, 0, none⟩ = some (.int .i64 ph) := blk_cell hz3
          have z41 : w3.cell? ⟨X4, 1, none⟩ = some (.int .i64 pe) := blk_cell hz3
          have z42 : w3.cell? ⟨X4, 2, none⟩ = some (.int .i64 ps) := blk_cell hz3
          have hc1 : 1 ≤ c3 := by simp at hc3; omega
          have hlen : ((⟨rA, rc, rb⟩ :: rs : List RSl)).length = rs.length + 1 := rfl
          rw [hlen] at hq3 hq4 hc3 ⊢
          obtain ⟨M, hM⟩ : ∃ M, rs.length + 1 = M := ⟨_, rfl⟩
          rw [hM] at hq3 hq4 hc3 ⊢
          have hM1 : M - 1 = rs.length := by omega
          have hM0 : (0 : Int) < (M : Int) := by omega
          have hM2 : 1 ≤ M := by omega
          have hM3 : 0 < M := by omega
          have hM4 : (1 : Int) ≤ (M : Int) := by omega
          have hc4 : (M : Int) ≤ (c3 : Int) := by omega
          have hc0 : 0 < c3 := by omega
          have hM5 : ¬ M = 0 := by omega
          have HM := Lib.hid hM
          clear hM hlen
          have HG3 := Lib.hid hg3D
          have HA5 := Lib.hid hA5
          clear hLz hLy hown3 hok3 hrs3 hb3 hbE hz3 hbX hbD hbL hrecs hra hcut hg3D hA5 hokr hapart hg3b hzL hzLD
          by_cases hc31 : c3 = 1
          · have HA6 : Hid (A5 = some ⟨g3, 0, none⟩) := by show A5 = _; rw [HA5.out, if_pos hc31]
            subst hc31
            have hr0 : rs.length = 0 := by omega
            obtain rfl : rs = [] := List.eq_nil_of_length_eq_zero hr0
            have hM1' : M = 1 := by omega
            subst hM1'
            rw [HA6.out] at HLz
            simp only [List.length_nil, Nat.sub_self] at HLz
            have hq5 : ((1 : Int) == 0) = false := rfl
            clear hq3 hq4 hM1 hM0 hM2 hM3 hM4 hc4 hc0 hM5 hc3 hc1 hr0
            go_wp2_with fail
            go_region_held3 (fun w' => w'.cell? ⟨g3, 0, none⟩ = some (.slice rA rb.length rc)) (first | exact hcx | exact hc7) (first
              | (go_at_call 39; refine HLz.out.mono ?_; rintro e w7 ⟨pv, rfl, hc7, HP⟩))
            go_wp2_with fail
            go_returns
            obtain ⟨hd7, ho7, hcase⟩ := HP.out
            refine ⟨R, HR.out, hd7, ho7, ?_⟩
            rcases hcase with ⟨hne, rfl⟩ | ⟨h0, x, vs, rfl, hx, hlg, hob, hrec⟩
            · exact .inl ⟨hne, rfl⟩
            · rw [h0]
              exact .inr ⟨rfl, x, vs, _, rb, [], rfl, hx, HHas.out, hlg, hob, hrec, fun j hj => HG3.out j (by rw [HA6.out]; exact hj)⟩
          · have HA6 : Hid (A5 = some ⟨g3, 1, none⟩) := by show A5 = _; rw [HA5.out, if_neg hc31]
            go_wp2_with fail
            rw [HA6.out] at HLz
            go_region_held3 (fun w' => w'.cell? ⟨g3, 0, none⟩ = some (.slice rA rb.length rc)) (first | exact hcx | exact hc7) (first
              | (go_at_call 39; refine HLz.out.mono ?_; rintro e w7 ⟨pv, rfl, hc7, HP⟩))
            go_wp2_with fail
            go_returns
            obtain ⟨hd7, ho7, hcase⟩ := HP.out
            refine ⟨R, HR.out, hd7, ho7, ?_⟩
            rcases hcase with ⟨hne, rfl⟩ | ⟨h0, x, vs, rfl, hx, hlg, hob, hrec⟩
            · exact .inl ⟨hne, rfl⟩
            · rw [h0]
              exact .inr ⟨rfl, x, vs, _, rb, rs, rfl, hx, HHas.out, hlg, hob, hrec, fun j hj => HG3.out j (by rw [HA6.out]; exact hj)⟩
end Go.Proofs.Ytjfpanamkkdebaa
