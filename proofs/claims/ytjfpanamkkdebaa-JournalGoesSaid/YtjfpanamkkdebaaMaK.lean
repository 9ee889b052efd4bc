/- A log opened.
   A log in memory, whole; may, Sync, Save, Snapshot, Sure.
   A log's Save, Snapshot, Sure, Records.
   A log's Append.
   The example, plain. -/
import Derived.Test.YtjfpanamkkdebaaMaJ
import Derived.Deep.RegionLaw
namespace Go.Proofs.Ytjfpanamkkdebaa
open Go.RowKit
set_option linter.unusedVariables false
set_option linter.unusedSimpArgs false
/-- What a device's newest log has: its snapshot, and the records. -/
def Dsk.hasP (d : Dsk) : List (List UInt8) := partsP (d.streamFrom (d.foundS 2).hf (d.foundS 2).ep d.room 0).length (d.streamFrom (d.foundS 2).hf (d.foundS 2).ep d.room 0)
def openP (d : Dsk) : Laid :=
  if d.dead then ⟨9, d, 0, 0⟩
  else if d.kept.length < 8 then ⟨3, d, 0, 0⟩
  else if (d.foundS 2).ep = 0 then ⟨3, d, 0, 0⟩
  else match d.hasP with
    | [] => ⟨3, d, 0, 0⟩
    | s :: rs => layP (d.foundS 2).hf (d.foundS 2).ep (d.foundS 2).sl d s rs
theorem Dsk.streamFrom_le (d : Dsk) (hf ep : Nat) : ∀ n i, (d.streamFrom hf ep n i).length ≤ 255 * n
  | 0, i => by unfold Dsk.streamFrom; simp
  | n + 1, i => by
    have h1 := d.streamFrom_le hf ep n (i + 1)
    have h2 := d.sheet_bytes (d.place hf i : Nat)
    unfold Dsk.streamFrom
    split
    · rw [List.length_append]; omega
    · simp
theorem rawP_len {bs r : List UInt8} {x : Nat} (h : rawP bs = .ok x r) : bs.length = r.length + need x + 1 := by
  cases bs with
  | nil => cases h
  | cons b bs =>
    rw [rawP_cons] at h
    split at h
    · cases h
    · rename_i hl
      split at h
      · rename_i hn
        injection h with h1 h
        subst h
        rw [← h1, hn, List.length_drop, List.length_cons]
        omega
      · cases h
theorem textS_len2 {bs r : List UInt8} (h : (textS 262148 (some bs)).2 = some r) : bs.length = r.length + need (textS 262148 (some bs)).1.length + 1 + (textS 262148 (some bs)).1.length ∧ (textS 262148 (some bs)).1.length ≤ 262148 := by
  unfold textS at h ⊢
  cases hn : numP 262148 bs with
  | no e => rw [numS_no hn] at h; cases h
  | ok x q =>
    rw [numS_ok hn] at h ⊢
    dsimp only at h ⊢
    have hx := (numP_ok hn).2.1
    have hq : rawP bs = .ok x q := by
      unfold numP at hn
      split at hn
      · rename_i y s hy
        split at hn
        · cases hn
        · injection hn with e1 e2
          subst e1 e2
          exact hy
      · cases hn
    have hr := rawP_len hq
    split at h
    · cases h
    · rename_i hlt
      rw [if_neg hlt]
      injection h with h
      subst h
      have e : (q.take x).length = x := by rw [List.length_take]; omega
      rw [e, List.length_drop]
      omega
theorem opened_len {s : List UInt8} (h : (opened s).2 = 0) : s.length = (opened s).1.length + 4 ∧ sealed (opened s).1 = s := by
  unfold opened at h ⊢
  split
  · rename_i hl; rw [if_pos hl] at h; cases h
  · rename_i hl
    rw [if_neg hl] at h
    split
    · rename_i hc
      refine ⟨by rw [List.length_drop]; omega, ?_⟩
      unfold sealed
      rw [← hc, List.take_append_drop]
    · rename_i hc; rw [if_neg hc] at h; cases h
theorem partsP_len : ∀ (f : Nat) (bs : List UInt8), ((partsP f bs).flatMap framedP).length ≤ bs.length ∧ ∀ r ∈ partsP f bs, r.length ≤ 262144
  | 0, bs => by unfold partsP; simp
  | f + 1, bs => by
    unfold partsP
    split
    · simp
    · cases ht : (textS 262148 (some bs)).2 with
      | none => simp
      | some r =>
        dsimp only
        have hl := textS_len2 ht
        split
        · rename_i ho
          have h1 := opened_len ho
          have ih := partsP_len f r
          constructor
          · rw [List.flatMap_cons, List.length_append, framedP_length]
            have : (opened (textS 262148 (some bs)).1).1.length + 4 = (textS 262148 (some bs)).1.length := by omega
            rw [this]
            omega
          · intro q hq
            rcases List.mem_cons.1 hq with rfl | hq
            · omega
            · exact ih.2 q hq
        · simp
theorem Dsk.hasP_len (d : Dsk) (s : List UInt8) (rs : List (List UInt8)) (h : d.hasP = s :: rs) : (allP s rs).length ≤ (d.streamFrom (d.foundS 2).hf (d.foundS 2).ep d.room 0).length ∧ s.length ≤ 262144 ∧ ∀ r ∈ rs, r.length ≤ 262144 := by
  have h1 := partsP_len (d.streamFrom (d.foundS 2).hf (d.foundS 2).ep d.room 0).length (d.streamFrom (d.foundS 2).hf (d.foundS 2).ep d.room 0)
  unfold Dsk.hasP at h
  rw [h] at h1
  refine ⟨?_, h1.2 s List.mem_cons_self, fun r hr => h1.2 r (List.mem_cons_of_mem _ hr)⟩
  have h2 := h1.1
  rw [List.flatMap_cons] at h2
  exact h2
set_option maxRecDepth 100000 in
set_option maxHeartbeats 3200000 in
theorem open_any (g k m c : Nat) (d : Dsk) (w : World) (hd : DkAt w g k m c d) :
    Calls Try.prog 12 #[.pointer (some ⟨g, 0, none⟩)] w fun e w' =>
      ∃ R, openP d = R ∧ DkAt w' g k m c R.d ∧ Only w w' [g, k, m] ∧
        ((R.e ≠ 0 ∧ e = .returned (.tuple #[.pointer none, .int .i64 R.e])) ∨
         (R.e = 0 ∧ ∃ (x : Nat) (vs rv : Value) (s : List UInt8) (rs : List RSl), e = .returned (.tuple #[.pointer (some ⟨x, 0, none⟩), .int .i64 0]) ∧ w.heap.size ≤ x ∧ d.hasP = s :: rs.map RSl.bs ∧
           LgAt w' x (1 - (d.foundS 2).hf) R.ep (1 - (d.foundS 2).sl) R.pg [] g k m c R.d vs rv rs.length ∧ OB w' w.heap.size vs s ∧ RecsAt w' rv rs ∧ (∀ j, rv.ownBlock = some j → w.heap.size ≤ j))) := by
  have HSz := Lib.hid (size_any g k m c d w hd)
  have HDe := Lib.hid (dead_any g k m c d w hd)
  have hpos := hd.ok.pos
  have hq0 : ((d.kept.length : Int) == 0) = false := by rw [beq_eq_false_iff_ne]; omega
  obtain ⟨R, hR⟩ : ∃ R, openP d = R := ⟨_, rfl⟩
  have HR := Lib.hid hR
  have HD := Lib.hid hd
  obtain ⟨N, hN⟩ : ∃ N, d.kept.length = N := ⟨_, rfl⟩
  rw [hN] at HSz hpos hq0
  have HN := Lib.hid hN
  clear hR hd hN
  cases hdead : d.dead with
  | true =>
    rw [hdead] at HDe
    have HR2 := Lib.hid (show R = ⟨9, d, 0, 0⟩ by rw [← HR.out]; unfold openP; rw [hdead]; rfl)
    clear hdead
    go_enter Try.func12, Try.ntmps12
    go_wp2_with (first
      | (go_at_call 11; refine HSz.out.mono ?_; rintro e w' ⟨rfl, rfl⟩)
      | (go_at_call 35; refine HDe.out.mono ?_; rintro e w' ⟨rfl, rfl⟩))
    go_returns
    refine ⟨R, HR.out, ?_⟩
    rw [HR2.out]
    exact ⟨HD.out, Only.refl _ _, .inl ⟨(fun h => by cases h), rfl⟩⟩
  | false =>
    rw [hdead] at HDe
    by_cases h8 : N < 8
    · have h81 : decide ((N : Int) < 8) = true := decide_eq_true (by omega)
      have HR2 := Lib.hid (show R = ⟨3, d, 0, 0⟩ by rw [← HR.out]; unfold openP; rw [hdead, HN.out, if_neg (by simp), if_pos h8])
      clear hdead
      go_enter Try.func12, Try.ntmps12
      go_wp2_with (first
        | (go_at_call 11; refine HSz.out.mono ?_; rintro e w' ⟨rfl, rfl⟩)
        | (go_at_call 35; refine HDe.out.mono ?_; rintro e w' ⟨rfl, rfl⟩))
      go_returns
      refine ⟨R, HR.out, ?_⟩
      rw [HR2.out]
      exact ⟨HD.out, Only.refl _ _, .inl ⟨(fun h => by cases h), rfl⟩⟩
    · have h81 : decide ((N : Int) < 8) = false := decide_eq_false (by omega)
      have h8N : 8 ≤ d.kept.length := by rw [HN.out]; omega
      have HFo := Lib.hid (found_any g k m c d w HD.out h8N hdead)
      have hfk := d.foundS_ok 2
      have hstl := d.streamFrom_le (d.foundS 2).hf (d.foundS 2).ep d.room 0
      have hrl := d.room_le HD.out.ok.most
      have hSt := fun W (hb : Below w.heap.size w W) => stream_any g k m c d (d.foundS 2).hf (d.foundS 2).ep (d.foundS 2).sl W (HD.out.below hb) h8N hdead hfk.1 hfk.2.1
      have hop : openP d = if (d.foundS 2).ep = 0 then ⟨3, d, 0, 0⟩ else match d.hasP with
          | [] => ⟨3, d, 0, 0⟩
          | s :: rs => layP (d.foundS 2).hf (d.foundS 2).ep (d.foundS 2).sl d s rs := by
        unfold openP
        rw [hdead, if_neg (by simp), if_neg (by omega)]
      rw [HR.out] at hop
      have hhl := d.hasP_len
      have hhe : d.hasP = partsP (d.streamFrom (d.foundS 2).hf (d.foundS 2).ep d.room 0).length (d.streamFrom (d.foundS 2).hf (d.foundS 2).ep d.room 0) := rfl
      obtain ⟨p, hp⟩ : ∃ p, d.foundS 2 = p := ⟨_, rfl⟩
      rw [hp] at HFo hfk hstl hSt hop hhl hhe ⊢
      obtain ⟨ph, pe, ps⟩ := p
      dsimp only at HFo hfk hstl hSt hop hhl hhe ⊢
      obtain ⟨st, hst⟩ : ∃ st, d.streamFrom ph pe d.room 0 = st := ⟨_, rfl⟩
      rw [hst] at hstl hSt hhl hhe
      have HSt := Lib.hid hSt
      have HOp := Lib.hid hop
      have HHl := Lib.hid hhl
      have HHe := Lib.hid hhe
      have HH := Lib.hid (⟨h8N, hst, hp⟩ : _ ∧ _ ∧ _)
      clear hSt hop hhl hhe hst hp hdead
      by_cases hpe : pe = 0
      · subst hpe
        have HR2 := Lib.hid (show R = ⟨3, d, 0, 0⟩ by rw [HOp.out, if_pos rfl])
        clear HOp
        go_enter Try.func12, Try.ntmps12
        go_wp2_with (first
          | (go_at_call 11; refine HSz.out.mono ?_; rintro e w' ⟨rfl, rfl⟩)
          | (go_at_call 35; refine HDe.out.mono ?_; rintro e w' ⟨rfl, rfl⟩)
          | (go_at_call 36; refine HFo.out.mono ?_; rintro e w1 ⟨rfl, hb1⟩))
        go_returns
        refine ⟨R, HR.out, ?_⟩
        rw [HR2.out]
        have hbE := hb1.alloc hb1.size (.cells #[.int .i64 ph, .int .i64 0, .int .i64 ps] 61)
        exact ⟨HD.out.below hbE, .of_below hbE _, .inl ⟨(fun h => by cases h), rfl⟩⟩
      · have hpp : decide (0 < pe) = true := decide_eq_true (by omega)
        rw [hpp] at HFo
        go_enter Try.func12, Try.ntmps12
        go_wp2_with (first
          | (go_at_call 11; refine HSz.out.mono ?_; rintro e w' ⟨rfl, rfl⟩)
          | (go_at_call 35; refine HDe.out.mono ?_; rintro e w' ⟨rfl, rfl⟩)
          | (go_at_call 36; refine HFo.out.mono ?_; rintro e w1 ⟨rfl, hb1⟩))
        have hbA : Below w.heap.size w (w1.alloc (.cells #[.int .i64 ph, .int .i64 pe, .int .i64 ps] 61)) := hb1.alloc hb1.size _
        have hzA := heap_alloc_new w1 (.cells #[.int .i64 ph, .int .i64 pe, .int .i64 ps] 61)
        have hw1 := hb1.size
        generalize w1.alloc (.cells #[.int .i64 ph, .int .i64 pe, .int .i64 ps] 61) = wA at *
        generalize w1.heap.size = X4 at *
        have hlA := blk_lt hzA
        refine (HSt.out wA hbA).mono ?_
        rintro e w2 ⟨v2, rfl, ho2, hb2⟩
        obtain ⟨A2, c2, rfl, hc2, hA2⟩ := OB.form ho2
        have HPa := Lib.hid (parts_any A2 c2 st w2 (by omega) hA2 (RB.of_own ho2))
        have HB2 := Lib.hid (⟨hbA, hb2, hzA⟩ : _ ∧ _ ∧ _)
        clear HSt HFo HSz HDe hbA ho2 hb2 hb1 hzA
        go_wp2_with fail
        refine HPa.out.mono ?_
        rintro e w3 ⟨v3, rs, rfl, hown3, hok3, hrs3, hb3⟩
        have HHas := Lib.hid (show d.hasP = rs.map RSl.bs by rw [hrs3, HHe.out])
        have hbE : Below w.heap.size w w3 := HB2.out.1.trans ((HB2.out.2.1.trans (hb3.mono HB2.out.2.1.size)).mono HB2.out.1.size)
        have hz3 := ((HB2.out.2.1.trans (hb3.mono HB2.out.2.1.size)).block X4 hlA).trans HB2.out.2.2
        have hsz := hb3.size
        have hszA := HB2.out.1.size
        have hsz2 := HB2.out.2.1.size
        obtain ⟨A3, c3, rfl, hc3⟩ := own_form hown3
        cases rs with
        | nil =>
          have HR2 := Lib.hid (show R = ⟨3, d, 0, 0⟩ by rw [HOp.out, if_neg hpe, HHas.out]; rfl)
          have HF := Lib.hid hbE
          clear HOp hown3 hok3 hrs3 hb3 hbE hz3
          simp only [List.length_nil]
          go_wp2_with fail
          go_returns
          refine ⟨R, HR.out, ?_⟩
          rw [HR2.out]
          exact ⟨HD.out.below HF.out, .of_below HF.out _, .inl ⟨(fun h => by cases h), rfl⟩⟩
        | cons r rs =>
          have hq3 : (((r :: rs).length : Int) == 0) = false := by rw [beq_eq_false_iff_ne]; simp only [List.length_cons]; omega
          have hq4 : ¬ (((r :: rs).length : Int) = 0) := by simp only [List.length_cons]; omega
          have HLy := Lib.hid (show R = layP ph pe ps d r.bs (rs.map RSl.bs) by rw [HOp.out, if_neg hpe, HHas.out]; rfl)
          clear HOp
          obtain ⟨g3, c3', e3, hg3, -⟩ := own_pos hown3 (by simp)
          injection e3 with e31 e32 e33
          subst e31 e33
          have hokr := hok3 r List.mem_cons_self
          obtain ⟨rA, rc, rb⟩ := r
          unfold RSl.v at hokr
          dsimp only at hokr HLy
          obtain ⟨rA', rc', er, hrc, hrA⟩ := OB.form hokr
          injection er with er1 er2 er3
          subst er1 er3
          have hbL : Below w3.heap.size w3 (w3.alloc (.cells #[.int .i64 ph, .int .i64 pe, .int .i64 ps, .int .i64 0, .slice none 0 0, .pointer (some ⟨g, 0, none⟩), .slice none 0 0, .slice none 0 0, .int .i64 0] 65)) := (Below.refl _ _).alloc (Nat.le_refl _) _
          have hzL := heap_alloc_new w3 (.cells #[.int .i64 ph, .int .i64 pe, .int .i64 ps, .int .i64 0, .slice none 0 0, .pointer (some ⟨g, 0, none⟩), .slice none 0 0, .slice none 0 0, .int .i64 0] 65)
          have hbD := hbL.drew
          have hbX := hbE.trans (hbD.mono hbE.size)
          have hcx : (w3.alloc (.cells #[.int .i64 ph, .int .i64 pe, .int .i64 ps, .int .i64 0, .slice none 0 0, .pointer (some ⟨g, 0, none⟩), .slice none 0 0, .slice none 0 0, .int .i64 0] 65)).drew.cell? ⟨g3, 0, none⟩ = some (.slice rA rb.length rc) := by
            have h1 : w3.cell? ⟨g3, 0, none⟩ = some (.slice rA rb.length rc) := (World.ownsRow.cellAt hown3 0 (by simp)).trans rfl
            exact (hbD.cell (World.block_lt_of_cell? _ _ h1)).trans h1
          obtain ⟨A5, hA5⟩ : ∃ A5, A5 = if c3 = 1 then some (⟨g3, 0, none⟩ : Addr) else some ⟨g3, 1, none⟩ := ⟨_, rfl⟩
          have hcut : CutAt (some ⟨g3, 0, none⟩) A5 1 c3 1 := by unfold CutAt; rw [hA5]; rfl
          have hra := RowFrom.drop (RowFrom.of_own hown3) hcut (by simp)
          simp only [List.map_cons, List.drop_succ_cons, List.drop_zero, List.length_cons, Nat.add_sub_cancel] at hra
          have hrecs : RecsAt w3 (.slice A5 rs.length (c3 - 1)) rs := ⟨hra, fun q hq => (hok3 q (List.mem_cons_of_mem _ hq)).mono (Nat.zero_le _)⟩
          have hg3D : ∀ j, (Value.slice A5 rs.length (c3 - 1)).ownBlock = some j → w.heap.size ≤ j := by
            intro j hj
            have : j = g3 := by
              rw [hA5] at hj
              split at hj <;> (injection hj with hj; exact hj.symm)
            omega
          have hzLD : LgC (w3.alloc (.cells #[.int .i64 ph, .int .i64 pe, .int .i64 ps, .int .i64 0, .slice none 0 0, .pointer (some ⟨g, 0, none⟩), .slice none 0 0, .slice none 0 0, .int .i64 0] 65)).drew w3.heap.size ph pe ps 0 (.slice none 0 0) g (.slice none 0 0) (.slice none 0 0) 0 := ⟨hzL⟩
          have hle := HHl.out rb (rs.map RSl.bs) HHas.out
          have hLy := lay_any w3.heap.size ph pe ps 0 _ g k m c d _ _ 0 rA rc rb (.slice A5 rs.length (c3 - 1)) rs _ hzLD (HD.out.below hbX) HH.out.1 hfk.1 (by omega) hfk.2.1 ((RB.of_own hokr).below hbD) hrA hrc (by omega) (hrecs.below hbD) (fun q hq => by have := hle.2.2 q.bs (List.mem_map_of_mem hq); omega) (by omega)
          have hapart : ∀ j cs f, w3.heap[j]? = some (.cells cs 29 f) → j ∉ [g, k, m] := fun j cs f hj => (HD.out.below hbE).apart hj (by decide) (by decide)
          have hg3b := own_blk hown3 g3 rfl
          have hg3n : g3 ∉ [g, k, m] := by obtain ⟨cs3, h⟩ := hg3b; exact hapart _ _ _ h
          have hg3l : g3 < w3.heap.size := (World.ownsRow.lt hown3 g3 rfl).2
          have hLz : Calls Try.prog 39 #[.pointer (some ⟨w3.heap.size, 0, none⟩), .slice rA rb.length rc, .slice A5 rs.length (c3 - 1)] (w3.alloc (.cells #[.int .i64 ph, .int .i64 pe, .int .i64 ps, .int .i64 0, .slice none 0 0, .pointer (some ⟨g, 0, none⟩), .slice none 0 0, .slice none 0 0, .int .i64 0] 65)).drew fun e w' =>
              ∃ pv : Value, e = .returned (.tuple #[pv, .int .i64 R.e]) ∧ w'.cell? ⟨g3, 0, none⟩ = some (.slice rA rb.length rc) ∧ Hid (DkAt w' g k m c R.d ∧ Only w w' [g, k, m] ∧ ((R.e ≠ 0 ∧ pv = .pointer none) ∨ (R.e = 0 ∧ ∃ (x : Nat) (vs : Value), pv = .pointer (some ⟨x, 0, none⟩) ∧ w.heap.size ≤ x ∧ LgAt w' x (1 - ph) R.ep (1 - ps) R.pg [] g k m c R.d vs (.slice A5 rs.length (c3 - 1)) rs.length ∧ OB w' w.heap.size vs rb ∧ RecsAt w' (.slice A5 rs.length (c3 - 1)) rs))) := by
            refine hLy.mono ?_
            rintro e w7 ⟨R2, hR2, hd7, ho7, hcase⟩
            obtain rfl : R2 = R := by rw [← hR2]; exact HLy.out.symm
            have hc7 : w7.cell? ⟨g3, 0, none⟩ = some (.slice rA rb.length rc) := (World.cell?_of_block (a := ⟨g3, 0, none⟩) (ho7.block g3 (Nat.lt_of_lt_of_le hg3l hbD.size) hg3n)).trans hcx
            have ho : Only w w7 [g, k, m] := (Only.of_below hbX _).trans ho7
            have hrec7 := (hrecs.below hbD).disk (HD.out.below hbX) ho7
            rcases hcase with ⟨hne, rfl⟩ | ⟨h0, x, vs, rfl, hx, hlg, hob⟩
            · exact ⟨_, rfl, hc7, hd7, ho, .inl ⟨hne, rfl⟩⟩
            · exact ⟨_, by rw [h0]; rfl, hc7, hd7, ho, .inr ⟨h0, x, vs, rfl, Nat.le_trans hbX.size hx, hlg, own_mono_base hob hbX.size, hrec7⟩⟩
          have HLz := Lib.hid hLz
          have z40 : w3.cell? ⟨X4, 0, none⟩ = some (.int .i64 ph) := blk_cell hz3
          have z41 : w3.cell? ⟨X4, 1, none⟩ = some (.int .i64 pe) := blk_cell hz3
          have z42 : w3.cell? ⟨X4, 2, none⟩ = some (.int .i64 ps) := blk_cell hz3
          have hc1 : 1 ≤ c3 := by simp at hc3; omega
          have hlen : ((⟨rA, rc, rb⟩ :: rs : List RSl)).length = rs.length + 1 := rfl
          rw [hlen] at hq3 hq4 hc3 ⊢
          obtain ⟨M, hM⟩ : ∃ M, rs.length + 1 = M := ⟨_, rfl⟩
          rw [hM] at hq3 hq4 hc3 ⊢
          have hM1 : M - 1 = rs.length := by omega
          have hM0 : (0 : Int) < (M : Int) := by omega
          have hM2 : 1 ≤ M := by omega
          have hM3 : 0 < M := by omega
          have hM4 : (1 : Int) ≤ (M : Int) := by omega
          have hc4 : (M : Int) ≤ (c3 : Int) := by omega
          have hc0 : 0 < c3 := by omega
          have hM5 : ¬ M = 0 := by omega
          have HM := Lib.hid hM
          clear hM hlen
          have HG3 := Lib.hid hg3D
          have HA5 := Lib.hid hA5
          clear hLz hLy hown3 hok3 hrs3 hb3 hbE hz3 hbX hbD hbL hrecs hra hcut hg3D hA5 hokr hapart hg3b hzL hzLD
          by_cases hc31 : c3 = 1
          · have HA6 : Hid (A5 = some ⟨g3, 0, none⟩) := by show A5 = _; rw [HA5.out, if_pos hc31]
            subst hc31
            have hr0 : rs.length = 0 := by omega
            obtain rfl : rs = [] := List.eq_nil_of_length_eq_zero hr0
            have hM1' : M = 1 := by omega
            subst hM1'
            rw [HA6.out] at HLz
            simp only [List.length_nil, Nat.sub_self] at HLz
            have hq5 : ((1 : Int) == 0) = false := rfl
            clear hq3 hq4 hM1 hM0 hM2 hM3 hM4 hc4 hc0 hM5 hc3 hc1 hr0
            go_wp2_with fail
            go_region_held3 (fun w' => w'.cell? ⟨g3, 0, none⟩ = some (.slice rA rb.length rc)) (first | exact hcx | exact hc7) (first
              | (go_at_call 39; refine HLz.out.mono ?_; rintro e w7 ⟨pv, rfl, hc7, HP⟩))
            go_wp2_with fail
            go_returns
            obtain ⟨hd7, ho7, hcase⟩ := HP.out
            refine ⟨R, HR.out, hd7, ho7, ?_⟩
            rcases hcase with ⟨hne, rfl⟩ | ⟨h0, x, vs, rfl, hx, hlg, hob, hrec⟩
            · exact .inl ⟨hne, rfl⟩
            · rw [h0]
              exact .inr ⟨rfl, x, vs, _, rb, [], rfl, hx, HHas.out, hlg, hob, hrec, fun j hj => HG3.out j (by rw [HA6.out]; exact hj)⟩
          · have HA6 : Hid (A5 = some ⟨g3, 1, none⟩) := by show A5 = _; rw [HA5.out, if_neg hc31]
            go_wp2_with fail
            rw [HA6.out] at HLz
            go_region_held3 (fun w' => w'.cell? ⟨g3, 0, none⟩ = some (.slice rA rb.length rc)) (first | exact hcx | exact hc7) (first
              | (go_at_call 39; refine HLz.out.mono ?_; rintro e w7 ⟨pv, rfl, hc7, HP⟩))
            go_wp2_with fail
            go_returns
            obtain ⟨hd7, ho7, hcase⟩ := HP.out
            refine ⟨R, HR.out, hd7, ho7, ?_⟩
            rcases hcase with ⟨hne, rfl⟩ | ⟨h0, x, vs, rfl, hx, hlg, hob, hrec⟩
            · exact .inl ⟨hne, rfl⟩
            · rw [h0]
              exact .inr ⟨rfl, x, vs, _, rb, rs, rfl, hx, HHas.out, hlg, hob, hrec, fun j hj => HG3.out j (by rw [HA6.out]; exact hj)⟩
end Go.Proofs.Ytjfpanamkkdebaa
namespace Go.Proofs.Ytjfpanamkkdebaa
open Go.RowKit
set_option linter.unusedVariables false
set_option linter.unusedSimpArgs false
/-- A log, plain. -/
structure Lg where
  hf : Nat
  ep : Nat
  sl : Nat
  pg : Nat
  bs : List UInt8
  d : Dsk
  snap : List UInt8
  recs : List (List UInt8)
  su : Nat
structure Lg.Fit (L : Lg) : Prop where
  hf : L.hf ≤ 1
  sl : L.sl ≤ 1
  ep : L.ep < 4294967296
  dk : 8 ≤ L.d.kept.length
  few : L.recs.length ≤ 1000000
  bs : L.d.dead = false → L.bs.length < 113 ∧ L.pg ≤ L.d.room
/-- A log in memory. -/
def JLog (w : World) (l g k m c : Nat) (q : Option Nat) (L : Lg) : Prop :=
  ∃ vs rv rs, LgAt w l L.hf L.ep L.sl L.pg L.bs g k m c L.d vs rv L.su ∧ OB w 0 vs L.snap ∧ RecsAt w rv rs ∧ rs.map RSl.bs = L.recs ∧ rv.ownBlock = q
theorem JLog.only {w w' : World} {l g k m c : Nat} {q : Option Nat} {L : Lg} {S : List Nat} (h : JLog w l g k m c q L) (ho : Only w w' S) (hl : l ∉ S) (hg : g ∉ S) (hk : k ∉ S) (hm : m ∉ S) (hS : ∀ j cs e f, w.heap[j]? = some (.cells cs e f) → e = 5 ∨ e = 29 → j ∉ S) : JLog w' l g k m c q L := by
  obtain ⟨vs, rv, rs, hlg, hs, hr, he⟩ := h
  obtain ⟨bv, hc, hb⟩ := hlg.cells
  have ob : ∀ v b, OB w 0 v b → OB w' 0 v b := fun v b h => own_only h ho (fun j hj => by obtain ⟨cs, hc⟩ := own_blk h j hj; exact hS _ _ _ _ hc (.inl rfl))
  exact ⟨vs, rv, rs, ⟨⟨bv, ⟨(ho.block l (blk_lt hc.blk) hl).trans hc.blk⟩, ob _ _ hb⟩, hlg.dk.only ho hg hk hm, hlg.lg, hlg.lk, hlg.lm⟩, ob _ _ hs, hr.only ho hS, he⟩
theorem JLog.below {w w' : World} {l g k m c : Nat} {q : Option Nat} {L : Lg} (h : JLog w l g k m c q L) (hb : Below w.heap.size w w') : JLog w' l g k m c q L :=
  h.only (.of_below hb []) List.not_mem_nil List.not_mem_nil List.not_mem_nil List.not_mem_nil (fun _ _ _ _ _ _ => List.not_mem_nil)
theorem JLog.dk {w : World} {l g k m c : Nat} {q : Option Nat} {L : Lg} (h : JLog w l g k m c q L) : DkAt w g k m c L.d := by
  obtain ⟨vs, rv, rs, hlg, _⟩ := h
  exact hlg.dk
theorem JLog.lt {w : World} {l g k m c : Nat} {q : Option Nat} {L : Lg} (h : JLog w l g k m c q L) : l < w.heap.size := by
  obtain ⟨vs, rv, rs, hlg, _⟩ := h
  exact hlg.lt
theorem JLog.ne {w : World} {l g k m c : Nat} {q : Option Nat} {L : Lg} (h : JLog w l g k m c q L) : l ≠ g ∧ l ≠ k ∧ l ≠ m := by
  obtain ⟨vs, rv, rs, hlg, _⟩ := h
  exact ⟨hlg.lg, hlg.lk, hlg.lm⟩
set_option maxHeartbeats 800000 in
theorem may_any (l g k m c : Nat) (q : Option Nat) (L : Lg) (w : World) (h : JLog w l g k m c q L) :
    Calls Try.prog 47 #[.pointer (some ⟨l, 0, none⟩)] w fun e w' => e = .returned (.int .i64 (if L.d.dead then 9 else 0 : Nat)) ∧ w = w' := by
  obtain ⟨vs, rv, rs, hlg, _⟩ := h
  obtain ⟨bv, hc, _⟩ := hlg.cells
  have k5 : w.cell? ⟨l, 5, none⟩ = some (.pointer (some ⟨g, 0, none⟩)) := blk_cell hc.blk
  have HD := Lib.hid (dead_any g k m c L.d w hlg.dk)
  clear hlg hc
  cases hd : L.d.dead with
  | true =>
    rw [hd] at HD
    clear hd
    go_enter Try.func47, Try.ntmps47
    go_wp2_with (go_at_call 35; refine HD.out.mono ?_; rintro e w' ⟨rfl, rfl⟩)
    go_ret
    exact ⟨rfl, rfl⟩
  | false =>
    rw [hd] at HD
    clear hd
    go_enter Try.func47, Try.ntmps47
    go_wp2_with (go_at_call 35; refine HD.out.mono ?_; rintro e w' ⟨rfl, rfl⟩)
    go_ret
    exact ⟨rfl, rfl⟩
def syncP (L : Lg) : Nat × Lg :=
  if L.d.dead then (9, L)
  else if L.d.actE ≠ 0 then (L.d.actE, { L with d := L.d.synced })
  else (0, { L with d := L.d.synced, su := L.recs.length, pg := if 0 < L.bs.length then L.pg + 1 else L.pg, bs := [] })
set_option maxHeartbeats 1600000 in
theorem lsync_any (l g k m c : Nat) (q : Option Nat) (L : Lg) (w : World) (h : JLog w l g k m c q L) (hf : L.Fit) :
    Calls Try.prog 22 #[.pointer (some ⟨l, 0, none⟩)] w fun e w' => e = .returned (.int .i64 (syncP L).1) ∧ JLog w' l g k m c q (syncP L).2 ∧ Only w w' [l, g, k, m] := by
  have HM := Lib.hid (may_any l g k m c q L w h)
  have HJ := Lib.hid h
  obtain ⟨vs, rv, rs, hlg, hsn, hrs, hre⟩ := h
  obtain ⟨bv, hc, hbv⟩ := hlg.cells
  obtain ⟨Ab, cb, rfl, -⟩ := OB.form hbv
  obtain ⟨Ar, cr, rfl, -⟩ := hrs.1.form
  have hrl : (rs.map RSl.v).length = L.recs.length := by rw [← hre.1, List.length_map, List.length_map]
  rw [hrl] at hlg hc hrs hre
  have hdk := hlg.dk
  have HSy := Lib.hid (sync_any g k m c L.d w hdk)
  have k5 : w.cell? ⟨l, 5, none⟩ = some (.pointer (some ⟨g, 0, none⟩)) := blk_cell hc.blk
  obtain ⟨L', hL'⟩ : ∃ L', syncP L = L' := ⟨_, rfl⟩
  rw [hL']
  have HL := Lib.hid hL'
  unfold syncP at HL
  obtain ⟨lf, le, ls, lp, lb, ld, lsn, lrc, lsu⟩ := L
  dsimp only at *
  have hbs := hf.bs
  have HC := Lib.hid (⟨hlg, hc, hbv, hsn, hrs, hre⟩ : _ ∧ _ ∧ _ ∧ _ ∧ _ ∧ _)
  dsimp only at hbs
  clear hL' hlg hc hbv hsn hrs hre hf
  cases hdd : ld.dead with
  | true =>
    rw [hdd] at HM HL
    simp only [if_true] at HM HL
    clear hdd
    go_enter Try.func22, Try.ntmps22
    go_wp2_with (go_at_call 47; refine HM.out.mono ?_; rintro e w' ⟨rfl, rfl⟩)
    go_ret
    rw [← HL.out]
    exact ⟨rfl, HJ.out, Only.refl _ _⟩
  | false =>
    rw [hdd] at HM HL
    simp only [Bool.false_eq_true, if_false] at HM HL
    have hbs2 := hbs hdd
    have hrl := ld.room_le hdk.ok.most
    obtain ⟨E, hE⟩ : ∃ E, ld.actE = E := ⟨_, rfl⟩
    rw [hE] at HL HSy
    clear hdd hE hbs hdk
    by_cases hz : E = 0
    · subst hz
      simp only [ne_eq, not_true_eq_false, if_false] at HL
      go_enter Try.func22, Try.ntmps22
      go_wp2_with (go_at_call 47; refine HM.out.mono ?_; rintro e w' ⟨rfl, rfl⟩)
      refine HSy.out.mono ?_
      rintro e w1 ⟨rfl, hd1, ho1⟩
      obtain ⟨hlg, hc, hbv, hsn, hrs, hre⟩ := HC.out
      have hlg1 := hlg.disk hd1 ho1
      have hl1 : w1.heap[l]? = _ := (ho1.block l hlg.lt (by have := hlg.lg; have := hlg.lk; have := hlg.lm; simp; omega)).trans hc.blk
      have hbv1 := OB.disk hbv hlg.dk ho1
      have hsn1 := OB.disk hsn hlg.dk ho1
      have hrs1 := hrs.disk hlg.dk ho1
      have k7 : w1.cell? ⟨l, 7, none⟩ = some (.slice Ar lrc.length cr) := blk_cell hl1
      have k8 : w1.cell? ⟨l, 8, none⟩ = some (.int .i64 lsu) := blk_cell hl1
      have f8 : w1.frozen? ⟨l, 8, none⟩ = false := blk_free hl1
      have k4 : (w1.setCell ⟨l, 8, none⟩ (.int .i64 lrc.length)).cell? ⟨l, 4, none⟩ = some (.slice Ab lb.length cb) := blk_cell (heap_setCell_same _ _ 8 _ _ (.int .i64 lrc.length) hl1)
      have hl2 : (w1.setCell ⟨l, 8, none⟩ (.int .i64 lrc.length)).heap[l]? = some (.cells #[.int .i64 lf, .int .i64 le, .int .i64 ls, .int .i64 lp, .slice Ab lb.length cb, .pointer (some ⟨g, 0, none⟩), vs, .slice Ar lrc.length cr, .int .i64 lrc.length] 65 (0, 0)) := heap_setCell_same _ _ 8 _ _ (.int .i64 lrc.length) hl1
      have hoS := Only.of_grown (Lib.grownBy_setCell w1 l 8 (.int .i64 lrc.length))
      have hne := hlg.lg
      have hne2 := hlg.lk
      have hne3 := hlg.lm
      have hapart : ∀ j cs e f, w1.heap[j]? = some (.cells cs e f) → e = 5 ∨ e = 29 → j ∉ [l] := by
        intro j cs e f hj he hjl
        rw [List.mem_singleton.1 hjl, hl1] at hj
        injection hj with hj
        injection hj with _ hj
        rcases he with rfl | rfl <;> exact absurd hj (by decide)
      have hd2 := hd1.only hoS (by simp; omega) (by simp; omega) (by simp; omega)
      have hsn2 := own_only hsn1 hoS (fun j hj => by obtain ⟨cs, hc⟩ := own_blk hsn1 j hj; exact hapart _ _ _ _ hc (.inl rfl))
      have hbv2 := own_only hbv1 hoS (fun j hj => by obtain ⟨cs, hc⟩ := own_blk hbv1 j hj; exact hapart _ _ _ _ hc (.inl rfl))
      have hrs2 := hrs1.only hoS hapart
      have hoE : Only w (w1.setCell ⟨l, 8, none⟩ (.int .i64 lrc.length)) [l, g, k, m] := (ho1.mono (by simp)).trans (hoS.mono (by simp))
      have HE := Lib.hid (⟨hl2, hd2, hsn2, hbv2, hrs2, hoE, hre⟩ : _ ∧ _ ∧ _ ∧ _ ∧ _ ∧ _ ∧ _)
      have HNe := Lib.hid (⟨hne, hne2, hne3⟩ : l ≠ g ∧ l ≠ k ∧ l ≠ m)
      clear hlg hc hbv hsn hrs hre hlg1 hbv1 hsn1 hrs1 hd1 ho1 hd2 hsn2 hbv2 hrs2 hoE hoS hapart hl1 hne hne2 hne3 HC HSy HM
      have HT := Lib.hid (turn_any l lf le ls lp _ g _ _ _ _ ⟨hl2⟩ (by omega))
      clear hl2
      by_cases hpl : 0 < lb.length
      · have hp1 : decide ((lb.length : Int) > 0) = true := decide_eq_true (by omega)
        have hp2 : decide (0 < lb.length) = true := decide_eq_true hpl
        go_wp2_with (go_at_call 52; refine HT.out.mono ?_; rintro e w4 ⟨rfl, hc4, ho4⟩)
        go_ret
        rw [← HL.out]
        obtain ⟨hl2, hd2, hsn2, hbv2, hrs2, hoE, hre⟩ := HE.out
        have hapart : ∀ j cs e f, (w1.setCell ⟨l, 8, none⟩ (.int .i64 lrc.length)).heap[j]? = some (.cells cs e f) → e = 5 ∨ e = 29 → j ∉ [l] := by
          intro j cs e f hj he hjl
          rw [List.mem_singleton.1 hjl, hl2] at hj
          injection hj with hj
          injection hj with _ hj
          rcases he with rfl | rfl <;> exact absurd hj (by decide)
        refine ⟨rfl, ⟨vs, _, rs, ⟨⟨_, by rw [if_pos hpl]; exact hc4, World.ownsRow_nil _ _ _ _⟩, hd2.only ho4 (by simpa using HNe.out.1.symm) (by simpa using HNe.out.2.1.symm) (by simpa using HNe.out.2.2.symm), HNe.out.1, HNe.out.2.1, HNe.out.2.2⟩, own_only hsn2 ho4 (fun j hj => by obtain ⟨cs, hc⟩ := own_blk hsn2 j hj; exact hapart _ _ _ _ hc (.inl rfl)), hrs2.only ho4 hapart, hre⟩, hoE.trans (ho4.mono (by simp))⟩
      · have hp1 : decide ((lb.length : Int) > 0) = false := decide_eq_false (by omega)
        have hp2 : decide (0 < lb.length) = false := decide_eq_false hpl
        go_wp2_with fail
        go_ret
        rw [← HL.out]
        obtain ⟨hl2, hd2, hsn2, hbv2, hrs2, hoE, hre⟩ := HE.out
        have hb0 : lb = [] := List.eq_nil_of_length_eq_zero (by omega)
        refine ⟨rfl, ⟨vs, _, rs, ⟨⟨_, by rw [if_neg hpl]; exact ⟨hl2⟩, by rw [← hb0]; exact hbv2⟩, hd2, HNe.out.1, HNe.out.2.1, HNe.out.2.2⟩, hsn2, hrs2, hre⟩, hoE⟩
    · have hz2 : ¬ ((E : Int) = 0) := by omega
      have hz3 : ((E : Int) == 0) = false := by rw [beq_eq_false_iff_ne]; omega
      simp only [ne_eq, hz, not_false_eq_true, if_true] at HL
      go_enter Try.func22, Try.ntmps22
      go_wp2_with (first
        | (go_at_call 47; refine HM.out.mono ?_; rintro e w' ⟨rfl, rfl⟩)
        | (go_at_call 29; refine HSy.out.mono ?_; rintro e w1 ⟨rfl, hd1, ho1⟩))
      go_ret
      rw [← HL.out]
      obtain ⟨hlg, hc, hbv, hsn, hrs, hre⟩ := HC.out
      exact ⟨rfl, ⟨vs, _, rs, hlg.disk hd1 ho1, OB.disk hsn hlg.dk ho1, hrs.disk hlg.dk ho1, hre⟩, ho1.mono (by simp)⟩
end Go.Proofs.Ytjfpanamkkdebaa
namespace Go.Proofs.Ytjfpanamkkdebaa
open Go.RowKit
set_option linter.unusedVariables false
set_option linter.unusedSimpArgs false
def saveP (L : Lg) (s : List UInt8) : Nat × Lg :=
  if L.d.dead then (9, L)
  else if 262144 < s.length then (1, L)
  else
    let R := layP L.hf L.ep L.sl L.d s []
    if R.e ≠ 0 then (R.e, { L with d := R.d })
    else (0, ⟨1 - L.hf, R.ep, 1 - L.sl, R.pg, [], R.d, s, [], 0⟩)
set_option maxRecDepth 100000 in
set_option maxHeartbeats 3200000 in
theorem save_any (l g k m c : Nat) (q : Option Nat) (L : Lg) (As : Option Addr) (cs : Nat) (s : List UInt8) (w : World) (h : JLog w l g k m c q L) (hf : L.Fit) (hs : RB w As s) (hAs : As = none → cs = 0) (hsc : s.length ≤ cs) (hsm : s.length ≤ 9223372036854775807) :
    Calls Try.prog 26 #[.pointer (some ⟨l, 0, none⟩), .slice As s.length cs] w fun e w' => e = .returned (.int .i64 (saveP L s).1) ∧ (∃ q', JLog w' l g k m c q' (saveP L s).2 ∧ (q' = q ∨ q' = none)) ∧ Only w w' [l, g, k, m] := by
  have HM := Lib.hid (may_any l g k m c q L w h)
  have HJ := Lib.hid h
  obtain ⟨vs, rv, rs, hlg, hsn, hrs, hre⟩ := h
  obtain ⟨bv, hc, hbv⟩ := hlg.cells
  have hdk := hlg.dk
  obtain ⟨L', hL'⟩ : ∃ L', saveP L s = L' := ⟨_, rfl⟩
  rw [hL']
  have HL := Lib.hid hL'
  unfold saveP at HL
  have hfit := hf
  obtain ⟨lf, le, ls, lp, lb, ld, lsn, lrc, lsu⟩ := L
  obtain ⟨f1, f2, f3, f4, f5, f6⟩ := hfit
  dsimp only at *
  have HC := Lib.hid (⟨hlg, hc, hbv, hsn, hrs, hre⟩ : _ ∧ _ ∧ _ ∧ _ ∧ _ ∧ _)
  clear hL' hlg hc hbv hsn hrs hre hf
  cases hdd : ld.dead with
  | true =>
    rw [hdd] at HM HL
    simp only [if_true] at HM HL
    clear hdd
    go_enter Try.func26, Try.ntmps26
    go_wp2_with (go_at_call 47; refine HM.out.mono ?_; rintro e w' ⟨rfl, rfl⟩)
    go_ret
    rw [← HL.out]
    exact ⟨rfl, ⟨q, HJ.out, .inl rfl⟩, Only.refl _ _⟩
  | false =>
    rw [hdd] at HM HL
    simp only [Bool.false_eq_true, if_false] at HM HL
    clear hdd
    by_cases hbg : 262144 < s.length
    · have h82 : decide ((s.length : Int) > 262144) = true := decide_eq_true (by omega)
      have h83 : decide ((262144 : Int) < (s.length : Int)) = true := decide_eq_true (by omega)
      have h84 : decide (262144 < s.length) = true := decide_eq_true hbg
      rw [if_pos hbg] at HL
      go_enter Try.func26, Try.ntmps26
      go_wp2_with (go_at_call 47; refine HM.out.mono ?_; rintro e w' ⟨rfl, rfl⟩)
      go_ret
      rw [← HL.out]
      exact ⟨rfl, ⟨q, HJ.out, .inl rfl⟩, Only.refl _ _⟩
    · have h82 : decide ((s.length : Int) > 262144) = false := decide_eq_false (by omega)
      have h83 : decide ((262144 : Int) < (s.length : Int)) = false := decide_eq_false (by omega)
      have h84 : decide (262144 < s.length) = false := decide_eq_false hbg
      rw [if_neg hbg] at HL
      have hal : (allP s (([] : List RSl).map RSl.bs)).length ≤ 1073741824 := by
        have := framedP_le s (by omega)
        simp only [allP, List.map_nil, List.flatMap_nil, List.append_nil]
        omega
      have hLy := lay_any l lf le ls lp bv g k m c ld vs rv lsu As cs s (.slice none 0 0) [] w HC.out.2.1 hdk f4 f1 f2 f3 hs hAs hsc (by omega) ⟨RowFrom.nil _ _, by simp⟩ (by simp) hal
      have HLy := Lib.hid hLy
      clear hLy hal hs
      go_enter Try.func26, Try.ntmps26
      go_wp2_with (go_at_call 47; refine HM.out.mono ?_; rintro e w' ⟨rfl, rfl⟩)
      refine HLy.out.mono ?_
      rintro e w7 ⟨R2, hR2, hd7, ho7, hcase⟩
      rw [List.map_nil] at hR2
      rw [hR2] at HL
      obtain ⟨hlg, hc, hbv, hsn, hrs, hre⟩ := HC.out
      have hlno : l ∉ [g, k, m] := by have := hlg.lg; have := hlg.lk; have := hlg.lm; simp; omega
      have hl7 := (ho7.block l hlg.lt hlno).trans hc.blk
      rcases hcase with ⟨hne, rfl⟩ | ⟨h0, x, vs7, rfl, hx, hlg7, hob⟩
      · have hz2 : ¬ ((R2.e : Int) = 0) := by omega
        have hz3 : ((R2.e : Int) == 0) = false := by rw [beq_eq_false_iff_ne]; omega
        try dsimp only at HL
        rw [if_pos hne] at HL
        have HF := Lib.hid (⟨hlg.disk hd7 ho7, OB.disk hsn hdk ho7, hrs.disk hdk ho7, hre, ho7⟩ : _ ∧ _ ∧ _ ∧ _ ∧ _)
        clear hlg hc hbv hsn hrs hre hd7 ho7 hl7 hlno HC HLy HM hR2
        go_wp2_with fail
        go_ret
        rw [← HL.out]
        exact ⟨rfl, ⟨q, ⟨vs, rv, rs, HF.out.1, HF.out.2.1, HF.out.2.2.1, HF.out.2.2.2.1⟩, .inl rfl⟩, HF.out.2.2.2.2.mono (by simp)⟩
      · try dsimp only at HL
        rw [if_neg (by omega)] at HL
        obtain ⟨bv7, hc7, hbv7⟩ := hlg7.cells
        obtain ⟨Av, cv, rfl, -⟩ := OB.form hob
        obtain ⟨Ab, cb, rfl, -⟩ := OB.form hbv7
        obtain ⟨Ar, cr, rfl, -⟩ := hrs.1.form
        obtain ⟨A0, c0', rfl, -⟩ := OB.form hsn
        obtain ⟨A1, c1', rfl, -⟩ := OB.form hbv
        have hlx : l ≠ x := by have := hlg.lt; omega
        have x0 : w7.cell? ⟨x, 0, none⟩ = some (.int .i64 (1 - lf : Nat)) := blk_cell hc7.blk
        have x1 : w7.cell? ⟨x, 1, none⟩ = some (.int .i64 R2.ep) := blk_cell hc7.blk
        have x2 : w7.cell? ⟨x, 2, none⟩ = some (.int .i64 (1 - ls : Nat)) := blk_cell hc7.blk
        have x3 : w7.cell? ⟨x, 3, none⟩ = some (.int .i64 R2.pg) := blk_cell hc7.blk
        have x4 : w7.cell? ⟨x, 4, none⟩ = some (.slice Ab 0 cb) := blk_cell hc7.blk
        have x5 : w7.cell? ⟨x, 5, none⟩ = some (.pointer (some ⟨g, 0, none⟩)) := blk_cell hc7.blk
        have x6 : w7.cell? ⟨x, 6, none⟩ = some (.slice Av s.length cv) := blk_cell hc7.blk
        have x7 : w7.cell? ⟨x, 7, none⟩ = some (.slice none 0 0) := blk_cell hc7.blk
        have x8 : w7.cell? ⟨x, 8, none⟩ = some (.int .i64 0) := blk_cell hc7.blk
        have l0 : w7.cell? ⟨l, 0, none⟩ = some (.int .i64 lf) := blk_cell hl7
        have l1 : w7.cell? ⟨l, 1, none⟩ = some (.int .i64 le) := blk_cell hl7
        have l2 : w7.cell? ⟨l, 2, none⟩ = some (.int .i64 ls) := blk_cell hl7
        have l3 : w7.cell? ⟨l, 3, none⟩ = some (.int .i64 lp) := blk_cell hl7
        have l4 : w7.cell? ⟨l, 4, none⟩ = some (.slice A1 lb.length c1') := blk_cell hl7
        have l5 : w7.cell? ⟨l, 5, none⟩ = some (.pointer (some ⟨g, 0, none⟩)) := blk_cell hl7
        have l6 : w7.cell? ⟨l, 6, none⟩ = some (.slice A0 lsn.length c0') := blk_cell hl7
        have l7 : w7.cell? ⟨l, 7, none⟩ = some (.slice Ar (rs.map RSl.v).length cr) := blk_cell hl7
        have l8 : w7.cell? ⟨l, 8, none⟩ = some (.int .i64 lsu) := blk_cell hl7
        have fr : ∀ i, w7.frozen? ⟨l, i, none⟩ = false := fun i => blk_free hl7
        have fr0 := fr 0
        have fr1 := fr 1
        have fr2 := fr 2
        have fr3 := fr 3
        have fr4 := fr 4
        have fr5 := fr 5
        have fr6 := fr 6
        have fr7 := fr 7
        have fr8 := fr 8
        have HF := Lib.hid (⟨hl7, hd7, ho7, hlg7, hob, hbv7⟩ : _ ∧ _ ∧ _ ∧ _ ∧ _ ∧ _)
        have HNe := Lib.hid (⟨hlg.lg, hlg.lk, hlg.lm⟩ : l ≠ g ∧ l ≠ k ∧ l ≠ m)
        generalize 1 - lf = nf at *
        generalize 1 - ls = ns at *
        clear fr hlg hc hbv hsn hrs hre hd7 ho7 hl7 hlno HC HLy HM hR2 hlg7 hob hbv7 hc7 HJ
        go_wp2_with fail
        go_ret
        rw [← HL.out]
        obtain ⟨hl7, hd7, ho7, hlg7, hob, hbv7⟩ := HF.out
        have h90 : (w7.setCell ⟨l, 0, none⟩ (.int .i64 nf)).heap[l]? = some (.cells #[.int .i64 nf, .int .i64 le, .int .i64 ls, .int .i64 lp, .slice A1 lb.length c1', .pointer (some ⟨g, 0, none⟩), .slice A0 lsn.length c0', .slice Ar (rs.map RSl.v).length cr, .int .i64 lsu] 65 (0, 0)) := heap_setCell_same _ _ 0 _ _ (.int .i64 nf) hl7
        have h91 : ((w7.setCell ⟨l, 0, none⟩ (.int .i64 nf)).setCell ⟨l, 1, none⟩ (.int .i64 R2.ep)).heap[l]? = some (.cells #[.int .i64 nf, .int .i64 R2.ep, .int .i64 ls, .int .i64 lp, .slice A1 lb.length c1', .pointer (some ⟨g, 0, none⟩), .slice A0 lsn.length c0', .slice Ar (rs.map RSl.v).length cr, .int .i64 lsu] 65 (0, 0)) := heap_setCell_same _ _ 1 _ _ (.int .i64 R2.ep) h90
        have h92 : (((w7.setCell ⟨l, 0, none⟩ (.int .i64 nf)).setCell ⟨l, 1, none⟩ (.int .i64 R2.ep)).setCell ⟨l, 2, none⟩ (.int .i64 ns)).heap[l]? = some (.cells #[.int .i64 nf, .int .i64 R2.ep, .int .i64 ns, .int .i64 lp, .slice A1 lb.length c1', .pointer (some ⟨g, 0, none⟩), .slice A0 lsn.length c0', .slice Ar (rs.map RSl.v).length cr, .int .i64 lsu] 65 (0, 0)) := heap_setCell_same _ _ 2 _ _ (.int .i64 ns) h91
        have h93 : ((((w7.setCell ⟨l, 0, none⟩ (.int .i64 nf)).setCell ⟨l, 1, none⟩ (.int .i64 R2.ep)).setCell ⟨l, 2, none⟩ (.int .i64 ns)).setCell ⟨l, 3, none⟩ (.int .i64 R2.pg)).heap[l]? = some (.cells #[.int .i64 nf, .int .i64 R2.ep, .int .i64 ns, .int .i64 R2.pg, .slice A1 lb.length c1', .pointer (some ⟨g, 0, none⟩), .slice A0 lsn.length c0', .slice Ar (rs.map RSl.v).length cr, .int .i64 lsu] 65 (0, 0)) := heap_setCell_same _ _ 3 _ _ (.int .i64 R2.pg) h92
        have h94 : (((((w7.setCell ⟨l, 0, none⟩ (.int .i64 nf)).setCell ⟨l, 1, none⟩ (.int .i64 R2.ep)).setCell ⟨l, 2, none⟩ (.int .i64 ns)).setCell ⟨l, 3, none⟩ (.int .i64 R2.pg)).setCell ⟨l, 4, none⟩ (.slice Ab 0 cb)).heap[l]? = some (.cells #[.int .i64 nf, .int .i64 R2.ep, .int .i64 ns, .int .i64 R2.pg, .slice Ab 0 cb, .pointer (some ⟨g, 0, none⟩), .slice A0 lsn.length c0', .slice Ar (rs.map RSl.v).length cr, .int .i64 lsu] 65 (0, 0)) := heap_setCell_same _ _ 4 _ _ (.slice Ab 0 cb) h93
        have h95 : ((((((w7.setCell ⟨l, 0, none⟩ (.int .i64 nf)).setCell ⟨l, 1, none⟩ (.int .i64 R2.ep)).setCell ⟨l, 2, none⟩ (.int .i64 ns)).setCell ⟨l, 3, none⟩ (.int .i64 R2.pg)).setCell ⟨l, 4, none⟩ (.slice Ab 0 cb)).setCell ⟨l, 5, none⟩ (.pointer (some ⟨g, 0, none⟩))).heap[l]? = some (.cells #[.int .i64 nf, .int .i64 R2.ep, .int .i64 ns, .int .i64 R2.pg, .slice Ab 0 cb, .pointer (some ⟨g, 0, none⟩), .slice A0 lsn.length c0', .slice Ar (rs.map RSl.v).length cr, .int .i64 lsu] 65 (0, 0)) := heap_setCell_same _ _ 5 _ _ (.pointer (some ⟨g, 0, none⟩)) h94
        have h96 : (((((((w7.setCell ⟨l, 0, none⟩ (.int .i64 nf)).setCell ⟨l, 1, none⟩ (.int .i64 R2.ep)).setCell ⟨l, 2, none⟩ (.int .i64 ns)).setCell ⟨l, 3, none⟩ (.int .i64 R2.pg)).setCell ⟨l, 4, none⟩ (.slice Ab 0 cb)).setCell ⟨l, 5, none⟩ (.pointer (some ⟨g, 0, none⟩))).setCell ⟨l, 6, none⟩ (.slice Av s.length cv)).heap[l]? = some (.cells #[.int .i64 nf, .int .i64 R2.ep, .int .i64 ns, .int .i64 R2.pg, .slice Ab 0 cb, .pointer (some ⟨g, 0, none⟩), .slice Av s.length cv, .slice Ar (rs.map RSl.v).length cr, .int .i64 lsu] 65 (0, 0)) := heap_setCell_same _ _ 6 _ _ (.slice Av s.length cv) h95
        have h97 : ((((((((w7.setCell ⟨l, 0, none⟩ (.int .i64 nf)).setCell ⟨l, 1, none⟩ (.int .i64 R2.ep)).setCell ⟨l, 2, none⟩ (.int .i64 ns)).setCell ⟨l, 3, none⟩ (.int .i64 R2.pg)).setCell ⟨l, 4, none⟩ (.slice Ab 0 cb)).setCell ⟨l, 5, none⟩ (.pointer (some ⟨g, 0, none⟩))).setCell ⟨l, 6, none⟩ (.slice Av s.length cv)).setCell ⟨l, 7, none⟩ (.slice none 0 0)).heap[l]? = some (.cells #[.int .i64 nf, .int .i64 R2.ep, .int .i64 ns, .int .i64 R2.pg, .slice Ab 0 cb, .pointer (some ⟨g, 0, none⟩), .slice Av s.length cv, .slice none 0 0, .int .i64 lsu] 65 (0, 0)) := heap_setCell_same _ _ 7 _ _ (.slice none 0 0) h96
        have h98 : (((((((((w7.setCell ⟨l, 0, none⟩ (.int .i64 nf)).setCell ⟨l, 1, none⟩ (.int .i64 R2.ep)).setCell ⟨l, 2, none⟩ (.int .i64 ns)).setCell ⟨l, 3, none⟩ (.int .i64 R2.pg)).setCell ⟨l, 4, none⟩ (.slice Ab 0 cb)).setCell ⟨l, 5, none⟩ (.pointer (some ⟨g, 0, none⟩))).setCell ⟨l, 6, none⟩ (.slice Av s.length cv)).setCell ⟨l, 7, none⟩ (.slice none 0 0)).setCell ⟨l, 8, none⟩ (.int .i64 0)).heap[l]? = some (.cells #[.int .i64 nf, .int .i64 R2.ep, .int .i64 ns, .int .i64 R2.pg, .slice Ab 0 cb, .pointer (some ⟨g, 0, none⟩), .slice Av s.length cv, .slice none 0 0, .int .i64 0] 65 (0, 0)) := heap_setCell_same _ _ 8 _ _ (.int .i64 0) h97
        have hl9 := h98
        have hg9 := (Lib.grownBy_trans (Lib.grownBy_trans (Lib.grownBy_trans (Lib.grownBy_trans (Lib.grownBy_trans (Lib.grownBy_trans (Lib.grownBy_trans (Lib.grownBy_trans (Lib.grownBy_setCell w7 l 0 (.int .i64 nf)) (Lib.grownBy_setCell _ l 1 (.int .i64 R2.ep))) (Lib.grownBy_setCell _ l 2 (.int .i64 ns))) (Lib.grownBy_setCell _ l 3 (.int .i64 R2.pg))) (Lib.grownBy_setCell _ l 4 (.slice Ab 0 cb))) (Lib.grownBy_setCell _ l 5 (.pointer (some ⟨g, 0, none⟩)))) (Lib.grownBy_setCell _ l 6 (.slice Av s.length cv))) (Lib.grownBy_setCell _ l 7 (.slice none 0 0))) (Lib.grownBy_setCell _ l 8 (.int .i64 0)))
        have hoS := Only.of_grown hg9
        have hapart : ∀ j cs e f, w7.heap[j]? = some (.cells cs e f) → e = 5 ∨ e = 29 → j ∉ [l] := by
          intro j cs e f hj he hjl
          rw [List.mem_singleton.1 hjl, hl7] at hj
          injection hj with hj
          injection hj with _ hj
          rcases he with rfl | rfl <;> exact absurd hj (by decide)
        have ob : ∀ B v b, OB w7 B v b → OB _ B v b := fun B v b h => own_only h hoS (fun j hj => by obtain ⟨cs, hc⟩ := own_blk h j hj; exact hapart _ _ _ _ hc (.inl rfl))
        refine ⟨rfl, ⟨none, ⟨_, _, [], ⟨⟨_, ⟨hl9⟩, (ob _ _ _ hbv7)⟩, hd7.only hoS (by simpa using HNe.out.1.symm) (by simpa using HNe.out.2.1.symm) (by simpa using HNe.out.2.2.symm), HNe.out.1, HNe.out.2.1, HNe.out.2.2⟩, own_mono_base (ob _ _ _ hob) (Nat.zero_le _), ⟨RowFrom.nil _ _, by simp⟩, rfl, rfl⟩, .inr rfl⟩, (ho7.mono (by simp)).trans (hoS.mono (by simp))⟩
theorem snapshot_any (l g k m c : Nat) (q : Option Nat) (L : Lg) (w : World) (h : JLog w l g k m c q L) (hm : L.snap.length ≤ 1073741824) :
    Calls Try.prog 15 #[.pointer (some ⟨l, 0, none⟩)] w fun e w' => ∃ v, e = .returned v ∧ OB w' w.heap.size v L.snap ∧ Below w.heap.size w w' := by
  obtain ⟨vs, rv, rs, hlg, hsn, hrs, hre⟩ := h
  obtain ⟨bv, hc, hbv⟩ := hlg.cells
  obtain ⟨A, cc, rfl, hl, hA⟩ := OB.form hsn
  have k6 : w.cell? ⟨l, 6, none⟩ = some (.slice A L.snap.length cc) := blk_cell hc.blk
  have HC := Lib.hid (bclone_wide A cc L.snap w (by omega) hA (RB.of_own hsn))
  clear hlg hsn hrs hre hc hbv
  go_enter Try.func15, Try.ntmps15
  go_wp2_with (go_at_call 40; refine HC.out.mono ?_; rintro e w' ⟨v, rfl, ho, hb⟩)
  go_ret
  exact ⟨v, rfl, ho, hb⟩
theorem sure_any (l g k m c : Nat) (q : Option Nat) (L : Lg) (w : World) (h : JLog w l g k m c q L) :
    Calls Try.prog 25 #[.pointer (some ⟨l, 0, none⟩)] w fun e w' => e = .returned (.int .i64 L.su) ∧ w = w' := by
  obtain ⟨vs, rv, rs, hlg, hsn, hrs, hre⟩ := h
  obtain ⟨bv, hc, hbv⟩ := hlg.cells
  have k8 : w.cell? ⟨l, 8, none⟩ = some (.int .i64 L.su) := blk_cell hc.blk
  clear hlg hsn hrs hre hc hbv
  go_enter Try.func25, Try.ntmps25
  go_wp2
  go_ret
  exact ⟨rfl, rfl⟩
set_option maxRecDepth 100000 in
set_option maxHeartbeats 3200000 in
theorem records_any (l g k m c : Nat) (q : Option Nat) (L : Lg) (w : World) (h : JLog w l g k m c q L) (hm : ∀ r ∈ L.recs, r.length ≤ 1073741824) (hfew : L.recs.length ≤ 1000000) :
    Calls Try.prog 17 #[.pointer (some ⟨l, 0, none⟩)] w fun e w' =>
      ∃ (v : Value) (rs : List RSl), e = .returned v ∧ w'.ownsRow w.heap.size 29 1 v rs.length (rs.map RSl.v) ∧ (∀ r ∈ rs, OB w' w.heap.size r.v r.bs) ∧ rs.map RSl.bs = L.recs ∧ Below w.heap.size w w' := by
  obtain ⟨vs, rv, rs, hlg, hsn, hrs, hre⟩ := h
  obtain ⟨bv, hc, hbv⟩ := hlg.cells
  obtain ⟨A, cc, rfl, hcc, hA, hlies⟩ := hrs.1.form
  rw [List.length_map] at *
  have hlen : rs.length = L.recs.length := by rw [← hre.1, List.length_map]
  have k7 : w.cell? ⟨l, 7, none⟩ = some (.slice A rs.length cc) := blk_cell hc.blk
  have hrl : rs.length ≤ 1000000 := by omega
  have HL := Lib.hid hlies
  have HR := Lib.hid hrs.2
  have HE := Lib.hid hre.1
  rw [← hre.1] at hm
  clear hlg hsn hrs hre hc hbv hlies hlen
  go_enter Try.func17, Try.ntmps17
  go_wp2_with fail
  go_loopg [3, 13] rs.length (fun r s3 s13 wr => ∃ (j : Nat) (qs : List RSl), j + r = rs.length ∧ s13 = .int .i64 j ∧ wr.ownsRow w.heap.size 29 1 s3 j (qs.map RSl.v) ∧ (∀ q ∈ qs, OB wr w.heap.size q.v q.bs) ∧ qs.length = j ∧ qs.map RSl.bs = (rs.take j).map RSl.bs ∧ Below w.heap.size w wr)
  case atStart => exact ⟨0, [], by omega, rfl, World.ownsRow_nil _ _ _ _, by simp, rfl, rfl, Below.refl _ _⟩
  case round =>
    obtain ⟨j, qs, hj, rfl, hown, hok, hql, hqe, hb⟩ := hrel
    obtain ⟨Av, cv, rfl, -⟩ := own_form hown
    by_cases hjl : j < rs.length
    · have hj1 : decide ((j : Int) < (rs.length : Int)) = true := decide_eq_true (by omega)
      have hj2 : (j : Int) < (rs.length : Int) := by omega
      have hj0 : (0 : Int) ≤ (j : Int) := by omega
      obtain ⟨a, rfl, hcj⟩ := (HL.out.below hb).at (k := j) (by rw [List.length_map]; exact hjl)
      rw [List.getElem_map] at hcj
      have hokj := OB.below (HR.out rs[j] (List.getElem_mem hjl)) hb
      have hmj := hm rs[j].bs (List.mem_map_of_mem (List.getElem_mem hjl))
      have htk : (rs.take (j + 1)).map RSl.bs = (rs.take j).map RSl.bs ++ [rs[j].bs] := by rw [List.take_succ_eq_append_getElem hjl, List.map_append]; rfl
      generalize rs[j] = rj at *
      obtain ⟨Ar, cr2, br⟩ := rj
      unfold RSl.v at hokj hcj
      dsimp only at hokj hcj hmj htk
      obtain ⟨Ar', cr', er, hlr, hAr'⟩ := OB.form hokj
      injection er with er1 er2 er3
      subst er1 er3
      have HCl := Lib.hid (bclone_wide Ar cr2 br wr (by omega) hAr' (RB.of_own hokj))
      have HTk := Lib.hid (⟨htk, hqe⟩ : _ ∧ _)
      have HQ := Lib.hid (⟨hown, hok, hb⟩ : _ ∧ _ ∧ _)
      have HML : Hid (maxLen = 9223372036854775807) := rfl
      clear htk hqe hokj hown hok hb
      go_wp2_with fail
      refine HCl.out.mono ?_
      rintro e w5 ⟨v5, rfl, ho5, hb5⟩
      obtain ⟨A5, c5, rfl, hl5, hA5⟩ := OB.form ho5
      have hal5 : Below wr.heap.size wr (w5.alloc (.cells #[.slice A5 br.length c5] 29)) := hb5.alloc hb5.size _
      have ho5A : OB (w5.alloc (.cells #[.slice A5 br.length c5] 29)) wr.heap.size (.slice A5 br.length c5) br := ho5.below ((Below.refl _ _).alloc (Nat.le_refl _) _)
      have HA5 := Lib.hid (⟨hal5, ho5A⟩ : _ ∧ _)
      clear hal5 ho5 hb5 HCl ho5A
      go_wp2_with (at_builtin; refine wpList_one rfl _ _ 22 rfl w.heap.size 29 _ 24 Try.underlying22 info_bs rfl (.slice Av j cv) j (qs.map RSl.v) rfl (OS_below HQ.out.1 HA5.out.1) _ (.slice A5 br.length c5) rfl (tmp_here _ _ _) rfl ?c6 ?c7 ?c8 ?_)
      case c6 => rw [HML.out]; omega
      case c7 => omega
      case c8 => exact Nat.le_trans HQ.out.2.2.size HA5.out.1.size
      intro g6 cap6 w6 hown6 hg6 hor hlt6
      have hownA := OS_below HQ.out.1 HA5.out.1
      have hokA : ∀ (v : Value) (b2 : List UInt8) (B : Nat), OB (w5.alloc (.cells #[.slice A5 br.length c5] 29)) B v b2 → OB w6 B v b2 := fun v b2 B hA => by
        refine own_kept2 hA hg6 (fun j hj e => ?_)
        obtain ⟨cs, hc⟩ := own_blk hownA j e
        obtain ⟨cs2, hc2⟩ := own_blk hA j hj
        rw [hc] at hc2
        injection hc2 with hc2
        injection hc2 with _ hc2
        exact absurd hc2 (by decide)
      have hbF : Below w.heap.size w w6 := (HQ.out.2.2.trans (HA5.out.1.mono HQ.out.2.2.size)).grown hg6 (Nat.le_trans HQ.out.2.2.size HA5.out.1.size) (fun j hj => (World.ownsRow.lt hownA j hj).1)
      have HFF := Lib.hid (⟨hbF, hown6, (fun q hq => hokA _ _ _ ((HQ.out.2.1 q hq).below HA5.out.1) : ∀ q ∈ qs, OB w6 w.heap.size q.v q.bs), OB.mono (hokA _ _ _ HA5.out.2) HQ.out.2.2.size⟩ : _ ∧ _ ∧ _ ∧ _)
      clear hbF hown6 hokA hownA hg6 HQ HA5
      go_wp2_with fail
      go_roundg (rs.length - (j + 1))
      case measure => omega
      case rel =>
        obtain ⟨k1, k3, k4, k5⟩ := HFF.out
        refine ⟨j + 1, qs ++ [(⟨A5, c5, br⟩ : RSl)], by omega, by go_num, by rw [List.map_append]; exact k3, ?_, by rw [List.length_append, List.length_singleton]; omega, by rw [List.map_append, HTk.out.1, HTk.out.2]; rfl, k1⟩
        intro q hq
        rcases List.mem_append.1 hq with hq | hq
        · exact k4 q hq
        · rw [List.mem_singleton.1 hq]
          exact k5
    · obtain rfl : j = rs.length := by omega
      have hj1 : decide ((rs.length : Int) < (rs.length : Int)) = false := decide_eq_false (by omega)
      rw [List.take_length, HE.out] at hqe
      have HF := Lib.hid (⟨hown, hok, hqe, hb⟩ : _ ∧ _ ∧ _ ∧ _)
      have HQl := Lib.hid hql
      clear hown hok hqe hb hql
      go_wp2_with fail
      go_ret
      exact ⟨_, qs, rfl, by rw [HQl.out]; exact HF.out.1, HF.out.2.1, HF.out.2.2.1, HF.out.2.2.2⟩
end Go.Proofs.Ytjfpanamkkdebaa
namespace Go.Proofs.Ytjfpanamkkdebaa
open Go.RowKit
set_option linter.unusedVariables false
set_option linter.unusedSimpArgs false
section
variable {P : Program} {w : World}
theorem own_there {base : Nat} {e : TypeId} {size n : Nat} {v : Value} {xs : List Value} (h : w.ownsRow base e size v n xs) (hn : 0 < n) : ∃ j, v.ownBlock = some j ∧ base ≤ j := by
  obtain ⟨g, c, rfl, hg, _⟩ := own_pos h hn
  exact ⟨g, rfl, hg⟩
theorem run_append_from (t ty e : TypeId) (z : Value) (bytes : Nat) (ht : P.underlying t = some (.slice e))
    (hinfo : (P.info? e).map (fun i => (i.zero, i.size, i.bytes)) = some (some z, 1, bytes)) (hzs : z.cells.size = 1)
    (v : Value) (xs : List Value) (hr : RowFrom w e v xs) (ad : Addr) (u : Value) (hu : w.cell? ad = some u) (h1 : u.oneCell' = true)
    (h63 : xs.length + 1 ≤ maxLen) (hbytes : (xs.length + 1) * bytes ≤ 140737488355328) :
    ∃ v' w', (Builtin.append_ #[t, t] ty #[v, .slice (some ad) 1 1]).run P w = .ok v' w' ∧ RowFrom w' e v' (xs ++ [u]) ∧ w.grownBy w' v.ownBlock ∧ (v'.ownBlock = v.ownBlock ∨ ∃ j, v'.ownBlock = some j ∧ w.heap.size ≤ j) := by
  obtain ⟨i, hi, hz, hsize, hby⟩ := info_parts hinfo
  rcases hr with ⟨rfl, rfl⟩ | ⟨g, o, c, cs, rfl, hh, k1, k2, k3, k4⟩
  · obtain ⟨v', w', hr, h2, h3, _⟩ := run_append_own (P := P) w w.heap.size t ty e i z 1 bytes ht hi hz hsize hby hzs (by decide) _ 0 [] (World.ownsRow_nil w w.heap.size e 1) ad 1 1 [u] rfl (one_news hu) (by intro q hq; cases List.mem_singleton.1 hq; exact h1) (by simpa using h63) (by simpa using hbytes) (Nat.le_refl _)
    exact ⟨v', w', hr, RowFrom.of_own h2, h3, .inr (own_there h2 (by omega))⟩
  · by_cases hroom : xs.length + 1 ≤ c
    · have hr := run_append_room_cells (P := P) w t ty e i ht hi g o xs.length c ad 1 1 [u] (by rw [hsize]; rfl) (one_news hu) (by intro q hq; cases List.mem_singleton.1 hq; exact h1) hroom
        (by intro j hj; simp only [List.length_singleton] at hj; rw [hsize, blk_cell hh, Array.getElem?_eq_getElem (by omega)]; rfl)
        (by intro j hj; exact blk_free hh)
      refine ⟨_, _, hr, ?_, ?_, .inl rfl⟩
      · right
        have hnew := heap_setCell_same w g (o + xs.length * i.size) _ _ u hh
        refine ⟨g, o, c, _, by rw [List.length_append, List.length_singleton], hnew, by rw [List.length_append, List.length_singleton]; omega, by rw [Array.size_setIfInBounds]; omega, k3, fun j q hj => ?_⟩
        rw [hsize, Nat.mul_one, Array.getElem?_setIfInBounds]
        rcases Nat.lt_or_ge j xs.length with hlt | hge
        · rw [List.getElem?_append_left hlt] at hj
          rw [if_neg (by omega)]
          exact k4 j q hj
        · have hj2 : j = xs.length := by
            have := (List.getElem?_eq_some_iff.1 hj).1
            rw [List.length_append, List.length_singleton] at this
            omega
          subst hj2
          rw [List.getElem?_append_right (Nat.le_refl _), Nat.sub_self] at hj
          rw [if_pos rfl, if_pos (by omega)]
          exact hj
      · exact Lib.grownBy_setCell w g _ u
    · obtain ⟨v', w', hr, h2, h3⟩ := run_append_arg_grows (P := P) w t ty e i z 1 bytes ht hi hz hsize hby hzs (by decide) ⟨g, o, none⟩ xs.length c xs (by rw [Nat.mul_one]) (fun j q hj => by rw [Addr.add_lit]; exact (blk_cell hh).trans (k4 j q hj)) ad 1 1 [u] rfl (one_news hu) (by omega) h63 hbytes
      exact ⟨v', w', hr, RowFrom.of_own h2, ⟨h3.os, h3.tape, h3.output, h3.size, fun j hj _ => h3.block j hj (by simp)⟩, .inr (own_there h2 (by omega))⟩
theorem step_from {ops : Array Oper} {o : Oper} {a : Act} {K : Act → World → Prop} {Q : Exit → Act → World → Prop} {E : Prop} (hgd : o.guard = none) (s x : Operand) (t : TypeId)
    (ho : o.op = .call { callee := .builtin .append, args := #[s, x], argTypes := #[t, t] })
    (e : TypeId) (z : Value) (bytes : Nat) (ht : P.underlying t = some (.slice e))
    (hinfo : (P.info? e).map (fun i => (i.zero, i.size, i.bytes)) = some (some z, 1, bytes)) (hzs : z.cells.size = 1)
    (v : Value) (n : Nat) (xs : List Value) (hn : xs.length = n) (hs : a.eval s = v) (hr : RowFrom w e v xs)
    (ad : Addr) (u : Value) (hx : a.eval x = .slice (some ad) 1 1) (hu : w.cell? ad = some u) (h1 : u.oneCell' = true)
    (h63 : n + 1 ≤ maxLen) (hbytes : (n + 1) * bytes ≤ 140737488355328)
    (h : ∀ A' c' w', RowFrom w' e (.slice A' (n + 1) c') (xs ++ [u]) → w.grownBy w' v.ownBlock → ((Value.slice A' (n + 1) c').ownBlock = v.ownBlock ∨ ∃ j, (Value.slice A' (n + 1) c').ownBlock = some j ∧ w.heap.size ≤ j) → K (a.put o.dst (.slice A' (n + 1) c')) w') :
    if Region.wanted o (yielded ops a.tmps) = true then Oper.wp P o a w K Q else E := by
  subst hn
  rw [if_pos (by simp [Region.wanted, hgd])]
  obtain ⟨v', w', hrun, h2, h3, h4⟩ := run_append_from (P := P) (w := w) t o.type e z bytes ht hinfo hzs v xs hr ad u hu h1 h63 hbytes
  obtain ⟨A', c', rfl, -⟩ := h2.form
  rw [List.length_append, List.length_singleton] at hrun h2 h4
  unfold Oper.wp execOp
  simp only [ho, resolve, invoke, builtin, Sem.run_bind, Sem.run_pure, Result.andThen_ok, List.map_toArray, List.map_cons, List.map_nil, hs, hx, hrun]
  exact h A' c' w' h2 h3 h4
end
theorem Only.of_opt {a b : World} {r : Option Nat} (h : a.grownBy b r) : Only a b r.toList :=
  ⟨h.os, h.tape, h.output, h.size, fun i hi hn => h.block i hi (fun e => hn (by rw [← e]; simp))⟩
theorem RowFrom.blk {w : World} {e : TypeId} {v : Value} {xs : List Value} (h : RowFrom w e v xs) : ∀ j, v.ownBlock = some j → ∃ cs, w.heap[j]? = some (.cells cs e (0, 0)) := by
  intro j hj
  rcases h with ⟨rfl, _⟩ | ⟨g, o, c, cs, rfl, hh, _⟩
  · cases hj
  · injection hj with hj
    subst hj
    exact ⟨cs, hh⟩
theorem append_tail {w8 w9 w11 : World} {l hf ep sl pg : Nat} {bs : List UInt8} {g k m c : Nat} {d : Dsk} {vs rv : Value} {su n : Nat} {rs : List RSl} {A9 A' : Option Addr} {c9 c' : Nat} {b snap : List UInt8}
    (h8 : LgAt w8 l hf ep sl pg bs g k m c d vs rv su) (hsn : OB w8 0 vs snap) (hrs : RecsAt w8 rv rs)
    (hb9 : Below w8.drew.heap.size w8.drew w9) (ho9 : OB w9 w8.drew.heap.size (.slice A9 b.length c9) b)
    (hrow : RowFrom w11 29 (.slice A' (n + 1) c') (rs.map RSl.v ++ [.slice A9 b.length c9])) (hg : (w9.alloc (.cells #[.slice A9 b.length c9] 29)).grownBy w11 rv.ownBlock)
    (hor : (Value.slice A' (n + 1) c').ownBlock = rv.ownBlock ∨ ∃ j, (Value.slice A' (n + 1) c').ownBlock = some j ∧ (w9.alloc (.cells #[.slice A9 b.length c9] 29)).heap.size ≤ j) :
    LgAt (w11.setCell ⟨l, 7, none⟩ (.slice A' (n + 1) c')) l hf ep sl pg bs g k m c d vs (.slice A' (n + 1) c') su ∧ OB (w11.setCell ⟨l, 7, none⟩ (.slice A' (n + 1) c')) 0 vs snap ∧ RecsAt (w11.setCell ⟨l, 7, none⟩ (.slice A' (n + 1) c')) (.slice A' (n + 1) c') (rs ++ [⟨A9, c9, b⟩]) ∧
      Only w8 (w11.setCell ⟨l, 7, none⟩ (.slice A' (n + 1) c')) ([l] ++ rv.ownBlock.toList) ∧ ((Value.slice A' (n + 1) c').ownBlock = rv.ownBlock ∨ ∃ j, (Value.slice A' (n + 1) c').ownBlock = some j ∧ w8.heap.size ≤ j) := by
  obtain ⟨bv, hc, hbv⟩ := h8.cells
  have hl := blk_lt hc.blk
  have hbA : Below w8.heap.size w8 (w9.alloc (.cells #[.slice A9 b.length c9] 29)) := ((Below.refl w8.heap.size w8).drew.trans hb9).alloc hb9.size _
  have hlA := (hbA.block l hl).trans hc.blk
  have hrvb := hrs.1.blk
  -- the blocks that may turn hold no such thing
  have hq : ∀ j, j ∈ rv.ownBlock.toList → ∃ cs, w8.heap[j]? = some (.cells cs 29 (0, 0)) := fun j hj => hrvb j (by simpa using hj)
  have hlq : l ∉ rv.ownBlock.toList := by
    intro hj
    obtain ⟨cs, h⟩ := hq l hj
    rw [hc.blk] at h
    injection h with h
    injection h with _ h
    exact absurd h (by decide)
  have hl11 : w11.heap[l]? = _ := ((Only.of_opt hg).block l (Nat.lt_of_lt_of_le hl hbA.size) hlq).trans hlA
  have hoS : Only w11 (w11.setCell ⟨l, 7, none⟩ (.slice A' (n + 1) c')) [l] := Only.of_grown (Lib.grownBy_setCell w11 l 7 _)
  have hoA : Only (w9.alloc (.cells #[.slice A9 b.length c9] 29)) (w11.setCell ⟨l, 7, none⟩ (.slice A' (n + 1) c')) ([l] ++ rv.ownBlock.toList) := ((Only.of_opt hg).mono (by simp; intro i h; exact .inr h)).trans (hoS.mono (by simp))
  have hoX : Only w8 (w11.setCell ⟨l, 7, none⟩ (.slice A' (n + 1) c')) ([l] ++ rv.ownBlock.toList) := (Only.of_below hbA _).trans hoA
  have hap : ∀ j cs f, w8.heap[j]? = some (.cells cs 5 f) → j ∉ [l] ++ rv.ownBlock.toList := by
    intro j cs f hj hm
    rcases List.mem_append.1 hm with hm | hm
    · rw [List.mem_singleton.1 hm, hc.blk] at hj
      injection hj with hj
      injection hj with _ hj
      exact absurd hj (by decide)
    · obtain ⟨cs2, h2⟩ := hq j hm
      rw [h2] at hj
      injection hj with hj
      injection hj with _ hj
      exact absurd hj (by decide)
  have ob : ∀ B v x, OB w8 B v x → OB (w11.setCell ⟨l, 7, none⟩ (.slice A' (n + 1) c')) B v x := fun B v x h => own_only h hoX (fun j hj => by obtain ⟨cs, hc⟩ := own_blk h j hj; exact hap _ _ _ hc)
  have hdq : ∀ j, j ∈ [g, k, m] → j ∉ [l] ++ rv.ownBlock.toList := by
    intro j hj hm
    rcases List.mem_append.1 hm with hm | hm
    · have := h8.lg; have := h8.lk; have := h8.lm
      rw [List.mem_singleton.1 hm] at hj
      simp at hj
      omega
    · obtain ⟨cs2, h2⟩ := hq j hm
      exact h8.dk.apart h2 (by decide) (by decide) hj
  have hlE := heap_setCell_same w11 l 7 _ _ (.slice A' (n + 1) c') hl11
  refine ⟨⟨⟨bv, ⟨hlE⟩, ob _ _ _ hbv⟩, h8.dk.only hoX (hdq g (by simp)) (hdq k (by simp)) (hdq m (by simp)), h8.lg, h8.lk, h8.lm⟩, ob _ _ _ hsn, ⟨?_, ?_⟩, hoX, ?_⟩
  · rw [List.map_append]
    refine hrow.only hoS (fun j cs f hj hm => ?_)
    rw [List.mem_singleton.1 hm, hl11] at hj
    injection hj with hj
    injection hj with _ hj
    exact absurd hj (by decide)
  · intro r hr
    rcases List.mem_append.1 hr with hr | hr
    · exact ob _ _ _ (hrs.2 r hr)
    · rw [List.mem_singleton.1 hr]
      have h1 : OB (w9.alloc (.cells #[.slice A9 b.length c9] 29)) w8.drew.heap.size (.slice A9 b.length c9) b := ho9.below ((Below.refl _ _).alloc (Nat.le_refl _) _)
      have h2 : OB (w11.setCell ⟨l, 7, none⟩ (.slice A' (n + 1) c')) w8.drew.heap.size (.slice A9 b.length c9) b := own_only h1 hoA (fun j hj hm => by
        have hge := (World.ownsRow.lt h1 j hj).1
        have hge2 : w8.heap.size ≤ j := hge
        rcases List.mem_append.1 hm with hm | hm
        · have := List.mem_singleton.1 hm; omega
        · obtain ⟨cs2, h2⟩ := hq j hm
          have := blk_lt h2
          omega)
      exact OB.mono h2 (Nat.zero_le _)
  · exact hor.imp id (fun ⟨j, h1, h2⟩ => ⟨j, h1, Nat.le_trans hbA.size h2⟩)
def appendP (L : Lg) (b : List UInt8) : Nat × Nat × Lg :=
  if L.d.dead then (0, 9, L)
  else if b.length = 0 ∨ 262144 < b.length then (0, 1, L)
  else if growP L.pg L.bs.length (framedP b).length L.d.room = false then (0, 8, L)
  else
    let p := pourP L.hf L.ep (framedP b).length L.d L.pg L.bs (framedP b)
    if p.e ≠ 0 then (0, p.e, { L with d := p.d, pg := p.pg, bs := p.bs })
    else (L.recs.length + 1, 0, { L with d := p.d, pg := p.pg, bs := p.bs, recs := L.recs ++ [b] })
set_option maxRecDepth 100000 in
set_option maxHeartbeats 3200000 in
theorem append_any (l g k m c : Nat) (q : Option Nat) (L : Lg) (As : Option Addr) (cs : Nat) (b : List UInt8) (w : World) (h : JLog w l g k m c q L) (hf : L.Fit) (hs : RB w As b) (hAs : As = none → cs = 0) (hsc : b.length ≤ cs) (hsm : b.length ≤ 9223372036854775807)
    (hA : ∀ a, As = some a → b ≠ [] → a.block ∉ [l, g, k, m]) :
    Calls Try.prog 21 #[.pointer (some ⟨l, 0, none⟩), .slice As b.length cs] w fun e w' => e = .returned (.tuple #[.int .i64 (appendP L b).1, .int .i64 (appendP L b).2.1]) ∧
      (∃ q', JLog w' l g k m c q' (appendP L b).2.2 ∧ (q' = q ∨ ∃ j, q' = some j ∧ w.heap.size ≤ j)) ∧ Only w w' ([l, g, m] ++ q.toList) := by
  have HM := Lib.hid (may_any l g k m c q L w h)
  have HJ := Lib.hid h
  obtain ⟨vs, rv, rs, hlg, hsn, hrs, hre⟩ := h
  obtain ⟨bv, hc, hbv⟩ := hlg.cells
  have hdk := hlg.dk
  obtain ⟨L', hL'⟩ : ∃ L', appendP L b = L' := ⟨_, rfl⟩
  rw [hL']
  have HL := Lib.hid hL'
  unfold appendP at HL
  have hfit := hf
  obtain ⟨lf, le, ls, lp, lb, ld, lsn, lrc, lsu⟩ := L
  obtain ⟨f1, f2, f3, f4, f5, f6⟩ := hfit
  dsimp only at *
  have HC := Lib.hid (⟨hlg, hc, hbv, hsn, hrs, hre⟩ : _ ∧ _ ∧ _ ∧ _ ∧ _ ∧ _)
  clear hL' hlg hc hbv hsn hrs hre hf
  cases hdd : ld.dead with
  | true =>
    rw [hdd] at HM HL
    simp only [if_true] at HM HL
    clear hdd
    go_enter Try.func21, Try.ntmps21
    go_wp2_with (go_at_call 47; refine HM.out.mono ?_; rintro e w' ⟨rfl, rfl⟩)
    go_returns
    rw [← HL.out]
    exact ⟨rfl, ⟨q, HJ.out, .inl rfl⟩, Only.refl _ _⟩
  | false =>
    rw [hdd] at HM HL
    simp only [Bool.false_eq_true, if_false] at HM HL
    have hbp := f6 hdd
    clear hdd f6
    by_cases hb0 : b.length = 0
    · have h80 : ((b.length : Int) == 0) = true := by rw [hb0]; rfl
      rw [if_pos (.inl hb0)] at HL
      go_enter Try.func21, Try.ntmps21
      go_wp2_with (go_at_call 47; refine HM.out.mono ?_; rintro e w' ⟨rfl, rfl⟩)
      go_returns
      rw [← HL.out]
      exact ⟨rfl, ⟨q, HJ.out, .inl rfl⟩, Only.refl _ _⟩
    · have h80 : ((b.length : Int) == 0) = false := by rw [beq_eq_false_iff_ne]; omega
      have h81 : ¬ ((b.length : Int) = 0) := by omega
      by_cases hbg : 262144 < b.length
      · have h82 : decide ((b.length : Int) > 262144) = true := decide_eq_true (by omega)
        have h83 : decide ((262144 : Int) < (b.length : Int)) = true := decide_eq_true (by omega)
        have h84 : decide (262144 < b.length) = true := decide_eq_true hbg
        rw [if_pos (.inr hbg)] at HL
        go_enter Try.func21, Try.ntmps21
        go_wp2_with (go_at_call 47; refine HM.out.mono ?_; rintro e w' ⟨rfl, rfl⟩)
        go_returns
        rw [← HL.out]
        exact ⟨rfl, ⟨q, HJ.out, .inl rfl⟩, Only.refl _ _⟩
      · have h82 : decide ((b.length : Int) > 262144) = false := decide_eq_false (by omega)
        have h83 : decide ((262144 : Int) < (b.length : Int)) = false := decide_eq_false (by omega)
        have h84 : decide (262144 < b.length) = false := decide_eq_false hbg
        rw [if_neg (by omega)] at HL
        have HFr := Lib.hid (framed_any As cs b w (by omega) hAs hs)
        have hfl := framedP_le b (by omega)
        obtain ⟨F, hF⟩ : ∃ F, framedP b = F := ⟨_, rfl⟩
        rw [hF] at HFr hfl HL
        have HFe := Lib.hid hF
        clear hF
        go_enter Try.func21, Try.ntmps21
        go_wp2_with (first
          | (go_at_call 47; refine HM.out.mono ?_; rintro e w' ⟨rfl, rfl⟩)
          | (go_at_call 48; refine HFr.out.mono ?_; rintro e w1 ⟨v1, rfl, ho1, hb1⟩; obtain ⟨A1, c1, rfl, hl1, hA1⟩ := OB.form ho1))
        obtain ⟨hlg, hc, hbv, hsn, hrs, hre, hrq⟩ := HC.out
        obtain ⟨Ab, cb, rfl, -⟩ := OB.form hbv
        obtain ⟨Ar, cr, rfl, -⟩ := hrs.1.form
        obtain ⟨n, hn⟩ : ∃ n, (rs.map RSl.v).length = n := ⟨_, rfl⟩
        rw [hn] at HC hlg hc hrs hrq
        have hnl : n = lrc.length := by rw [← hn, ← hre, List.length_map, List.length_map]
        have HN := Lib.hid (⟨hn, hnl⟩ : _ ∧ _)
        have hnf : n ≤ 1000000 := by omega
        have HSb := Lib.hid hs
        clear hn hnl
        have hdk1 := hdk.below hb1
        have hl1 := (hb1.block l hlg.lt).trans hc.blk
        have hlt1 := blk_lt hl1
        have hrm := ld.room_le hdk.ok.most
        have c3 : w1.cell? ⟨l, 3, none⟩ = some (.int .i64 lp) := blk_cell hl1
        have c4 : w1.cell? ⟨l, 4, none⟩ = some (.slice Ab lb.length cb) := blk_cell hl1
        have c5 : w1.cell? ⟨l, 5, none⟩ = some (.pointer (some ⟨g, 0, none⟩)) := blk_cell hl1
        have HRm := Lib.hid (room_any g k m c ld w1.drew (hdk1.below (Below.refl _ _).drew))
        have HGr := Lib.hid (fun W => grow_any lp F.length ld.room cb Ab lb W (by omega) (by omega) (by omega) (by omega))
        have hlD : l < w1.drew.heap.size := hlt1
        have HB1 := Lib.hid (⟨hb1, ho1⟩ : _ ∧ _)
        have HNe := Lib.hid (⟨hlg.lg, hlg.lk, hlg.lm, hlg.lt⟩ : l ≠ g ∧ l ≠ k ∧ l ≠ m ∧ l < w.heap.size)
        have hdl := hdk.lt
        clear hlg hc hbv hsn hrs hre hrq hdk1 hl1 hb1 ho1 hs HM HFr
        cases hgr : growP lp lb.length F.length ld.room with
        | false =>
          rw [hgr, if_pos rfl] at HL
          rw [hgr] at HGr
          go_region_held3 (fun w' => w'.cell? ⟨l, 3, none⟩ = some (.int .i64 lp) ∧ w'.cell? ⟨l, 4, none⟩ = some (.slice Ab lb.length cb) ∧ w'.cell? ⟨l, 5, none⟩ = some (.pointer (some ⟨g, 0, none⟩))) (first | exact ⟨c3, c4, c5⟩ | exact ⟨y3, y4, y5⟩) (first
            | (go_at_call 50; refine HRm.out.mono ?_; rintro e w6 ⟨rfl, rfl⟩)
            | (go_at_call 49; refine (HGr.out _).mono ?_; rintro e w6 ⟨rfl, hb6⟩; have y3 := (hb6.cell (p := ⟨l, 3, none⟩) hlD).trans c3; have y4 := (hb6.cell (p := ⟨l, 4, none⟩) hlD).trans c4; have y5 := (hb6.cell (p := ⟨l, 5, none⟩) hlD).trans c5))
          have hbE : Below w.heap.size w w6 := HB1.out.1.trans (((Below.refl w1.heap.size w1).drew.trans hb6).mono HB1.out.1.size)
          go_wp2_with fail
          go_returns
          rw [← HL.out]
          exact ⟨rfl, ⟨q, HJ.out.below hbE, .inl rfl⟩, .of_below hbE _⟩
        | true =>
          rw [hgr, if_neg (by simp)] at HL
          rw [hgr] at HGr
          go_region_held3 (fun w' => w'.cell? ⟨l, 3, none⟩ = some (.int .i64 lp) ∧ w'.cell? ⟨l, 4, none⟩ = some (.slice Ab lb.length cb) ∧ w'.cell? ⟨l, 5, none⟩ = some (.pointer (some ⟨g, 0, none⟩))) (first | exact ⟨c3, c4, c5⟩ | exact ⟨y3, y4, y5⟩) (first
            | (go_at_call 50; refine HRm.out.mono ?_; rintro e w6 ⟨rfl, rfl⟩)
            | (go_at_call 49; refine (HGr.out _).mono ?_; rintro e w6 ⟨rfl, hb6⟩; have y3 := (hb6.cell (p := ⟨l, 3, none⟩) hlD).trans c3; have y4 := (hb6.cell (p := ⟨l, 4, none⟩) hlD).trans c4; have y5 := (hb6.cell (p := ⟨l, 5, none⟩) hlD).trans c5))
          rename_i hheld
          have hb16 : Below w1.heap.size w1 w6 := (Below.refl w1.heap.size w1).drew.trans hb6
          have hbE : Below w.heap.size w w6 := HB1.out.1.trans (hb16.mono HB1.out.1.size)
          have hlg6 := HC.out.1.below hbE
          have hoF := HB1.out.2.below hb16
          have hgr2 : lp * 113 + lb.length + F.length ≤ 400000 := by
            unfold growP at hgr
            simp at hgr
            omega
          have HPo := pour_any l lf le ls lp lb g k m c ld vs _ lsu A1 c1 F w6 hlg6 f1 f3 hbp.1 hgr2 (RB.of_own hoF) hA1 hl1 (fun a ha hne => by
            subst ha
            have := (World.ownsRow.lt hoF a.block rfl).1
            have := HNe.out.2.2.2
            simp; omega)
          have HPo := Lib.hid HPo
          have HW6 := Lib.hid (⟨hbE, hlg6⟩ : _ ∧ _)
          clear hheld hb6 hb16 hbE hlg6 hoF y3 y4 y5 c3 c4 c5 HGr HRm
          try dsimp only at HL
          obtain ⟨P, hP⟩ : ∃ P, pourP lf le F.length ld lp lb F = P := ⟨_, rfl⟩
          rw [hP] at HPo HL
          obtain ⟨pd, pp, pbs, pe⟩ := P
          dsimp only at HPo HL
          clear hP
          go_wp2_with fail
          refine HPo.out.mono ?_
          rintro e w8 ⟨rfl, hlg8, ho8⟩
          have hbE := HW6.out.1
          have hrs6 := HC.out.2.2.2.2.1.below hbE
          have hsn6 := HC.out.2.2.2.1.below hbE
          have hapart : ∀ j cs e f, w6.heap[j]? = some (.cells cs e f) → e = 5 ∨ e = 29 → j ∉ [l, g, m] := by
            intro j cs e f hj he
            have h1 := (hdk.below hbE).apart hj (by rcases he with rfl | rfl <;> decide) (by rcases he with rfl | rfl <;> decide)
            have h2 : j ≠ l := by
              rintro rfl
              have h3 := ((hbE.block j HNe.out.2.2.2).trans HC.out.2.1.blk)
              rw [h3] at hj
              injection hj with hj
              injection hj with _ hj
              rcases he with rfl | rfl <;> exact absurd hj (by decide)
            simp at h1 ⊢
            omega
          have hrs8 := hrs6.only ho8 hapart
          have hsn8 : OB w8 0 vs lsn := own_only hsn6 ho8 (fun j hj => by obtain ⟨cs, hc⟩ := own_blk hsn6 j hj; exact hapart _ _ _ _ hc (.inl rfl))
          have hoE : Only w w8 [l, g, m] := (Only.of_below hbE _).trans ho8
          by_cases hpe : pe = 0
          · subst hpe
            rw [if_neg (by simp)] at HL
            obtain ⟨bv8, hc8, hbv8⟩ := hlg8.cells
            obtain ⟨Ab8, cb8, rfl, -⟩ := OB.form hbv8
            have hl8 := blk_lt hc8.blk
            have hrb8 : RB w8 As b := RB.only (HSb.out.below hbE) ho8 (fun a ha hne => by have := hA a ha hne; simp at this ⊢; omega)
            have HCl := Lib.hid (bclone_wide As cs b w8.drew (by omega) hAs (RB.drew hrb8))
            have k7 : w8.drew.cell? ⟨l, 7, none⟩ = some (.slice Ar n cr) := blk_cell hc8.blk
            have hrow8 : RowFrom w8.drew 29 (.slice Ar n cr) (rs.map RSl.v) := hrs8.1.below (Below.refl _ _).drew
            have hnt : ∀ W, Below w8.drew.heap.size w8.drew W → RowFrom W 29 (.slice Ar n cr) (rs.map RSl.v) := fun W hb => hrow8.below hb
            have HNt := Lib.hid hnt
            have HK := Lib.hid (⟨hlg8, hsn8, hrs8, hoE, hc8, hbv8⟩ : _ ∧ _ ∧ _ ∧ _ ∧ _ ∧ _)
            have hrq : (Value.slice Ar n cr).ownBlock = q := HC.out.2.2.2.2.2.2
            have hlD8 : l < w8.drew.heap.size := hl8
            have hblkD : w8.drew.heap[l]? = _ := hc8.blk
            have hrn : ∀ j, (Value.slice Ar n cr).ownBlock = some j → j ≠ l := by
              intro j hj e
              subst e
              rcases hrow8 with ⟨e, _⟩ | ⟨g', o', c', cs', e, hh, _⟩
              · rw [e] at hj; cases hj
              · rw [e] at hj
                injection hj with hj
                rw [← hj] at hblkD
                have hh2 : w8.drew.heap[g']? = _ := hh
                rw [hh2] at hblkD
                injection hblkD with hblkD
                injection hblkD with _ hblkD
                exact absurd hblkD (by decide)
            have HBl := Lib.hid hblkD
            have HRn := Lib.hid hrn
            have hn1 : n + 1 ≤ maxLen := by simp only [maxLen]; omega
            have hn2 : (n + 1) * 24 ≤ 140737488355328 := by omega
            have hxn : (rs.map RSl.v).length = n := HN.out.1
            clear hlg8 hsn8 hrs8 hoE hc8 hbv8 ho8 hapart hrs6 hsn6 hbE hrow8 hnt hrb8 hblkD hrn HPo
            go_wp2_with fail
            go_region_law (first
              | (go_simp; go_at_call 40; refine HCl.out.mono ?_; rintro e w9 ⟨v9, rfl, ho9, hb9⟩; obtain ⟨A9, c9, rfl, hl9, hA9⟩ := OB.form ho9; have k79 := (hb9.cell (p := ⟨l, 7, none⟩) hlD8).trans k7; have k79A := cell_alloc (o := .cells #[.slice A9 b.length c9] 29) k79; have hbl := HBl.out; have hbl9 := (hb9.block l hlD8).trans hbl)
              | (refine step_from rfl _ _ 22 rfl 29 _ 24 Try.underlying22 info_bs rfl (.slice Ar n cr) n (rs.map RSl.v) hxn rfl (HNt.out _ (hb9.alloc hb9.size _)) _ (.slice A9 b.length c9) rfl (tmp_here _ _ _) rfl hn1 hn2 ?_; intro A' c' w11 hrow hg hor; have hbl11 := (hg.block l (Nat.lt_of_lt_of_le hlD8 (hb9.alloc hb9.size _).size) (fun e => HRn.out l e.symm rfl)).trans ((hb9.alloc hb9.size _).block l hlD8 |>.trans HBl.out); have k711 : w11.cell? ⟨l, 7, none⟩ = some (.slice Ar n cr) := blk_cell hbl11; have f711 : w11.frozen? ⟨l, 7, none⟩ = false := blk_free hbl11))
            all_goals
              have hE := append_tail HK.out.1 HK.out.2.1 HK.out.2.2.1 hb9 ho9 hrow hg hor
              have k7E : (w11.setCell ⟨l, 7, none⟩ (.slice A' (n + 1) c')).cell? ⟨l, 7, none⟩ = some (.slice A' (n + 1) c') := blk_cell (heap_setCell_same w11 l 7 _ _ (.slice A' (n + 1) c') hbl11)
              have HE := Lib.hid hE
              clear hE hrow hg hor hbl11 k711 f711 hbl9 hbl k79 k79A hb9 ho9 HCl HNt HBl HRn k7
              go_wp2_with fail
              go_returns
              obtain ⟨h1, h2, h3, h4, h5⟩ := HE.out
              rw [← HL.out]
              have hoE := HK.out.2.2.2.1
              rw [hrq] at h4 h5
              refine ⟨by rw [HN.out.2]; push_cast; rfl, ⟨_, ⟨vs, _, rs ++ [⟨A9, c9, b⟩], h1, h2, h3, by rw [List.map_append, HC.out.2.2.2.2.2.1]; rfl, rfl⟩, h5.imp id (fun ⟨j, h1, h2⟩ => ⟨j, h1, Nat.le_trans hoE.size h2⟩)⟩, (hoE.mono (fun i h => List.mem_append_left _ h)).trans (h4.mono (fun i h => (List.mem_append.1 h).elim (fun h => by rw [List.mem_singleton.1 h]; simp) (fun h => List.mem_append_right _ h)))⟩
          · have hz2 : ¬ ((pe : Int) = 0) := by omega
            have hz3 : ((pe : Int) == 0) = false := by rw [beq_eq_false_iff_ne]; omega
            rw [if_pos hpe] at HL
            have HF := Lib.hid (⟨hlg8, hsn8, hrs8, hoE⟩ : _ ∧ _ ∧ _ ∧ _)
            clear hlg8 hsn8 hrs8 hoE ho8 hapart hrs6 hsn6 hbE
            go_wp2_with fail
            go_returns
            rw [← HL.out]
            exact ⟨rfl, ⟨q, ⟨vs, _, rs, HF.out.1, HF.out.2.1, HF.out.2.2.1, HC.out.2.2.2.2.2⟩, .inl rfl⟩, HF.out.2.2.2.mono (by simp)⟩
end Go.Proofs.Ytjfpanamkkdebaa
namespace Go.Proofs.Ytjfpanamkkdebaa
open Go.RowKit
set_option linter.unusedVariables false
set_option linter.unusedSimpArgs false
def awR : Laid := formatP (fresh 20) [115]
def awL0 : Lg := ⟨0, awR.ep, 0, awR.pg, [], awR.d, [115], [], 0⟩
def awL1 : Lg := (appendP awL0 [97]).2.2
def awL2 : Lg := (syncP awL1).2
def awL3 : Lg := (appendP awL2 [98]).2.2
def awD : Dsk := awL3.d.crashed [] (-1) 0
set_option maxRecDepth 100000 in
theorem aw1 : awR.e = 0 ∧ (syncP awL1).1 = 0 := by decide +kernel
set_option maxRecDepth 100000 in
theorem aw2 : (openP awD).e = 0 ∧ awD.hasP = [[115], [97]] := by decide +kernel
set_option maxRecDepth 100000 in
theorem aw3 : awL0.Fit ∧ awL1.Fit ∧ awL2.Fit := by
  refine ⟨⟨?_, ?_, ?_, ?_, ?_, ?_⟩, ⟨?_, ?_, ?_, ?_, ?_, ?_⟩, ⟨?_, ?_, ?_, ?_, ?_, ?_⟩⟩ <;> decide +kernel
/-- The log that a making makes, and the one that an opening does. -/
def formatLg (d : Dsk) (s : List UInt8) : Lg := ⟨0, (formatP d s).ep, 0, (formatP d s).pg, [], (formatP d s).d, s, [], 0⟩
def openLg (d : Dsk) : Lg := ⟨1 - (d.foundS 2).hf, (openP d).ep, 1 - (d.foundS 2).sl, (openP d).pg, [], (openP d).d, d.hasP.headD [], d.hasP.tail, d.hasP.tail.length⟩
theorem format_log (g k m c : Nat) (d : Dsk) (As : Option Addr) (cs : Nat) (snap : List UInt8) (w : World) (hd : DkAt w g k m c d) (hs : RB w As snap) (hAs : As = none → cs = 0) (hsc : snap.length ≤ cs) (hm : snap.length ≤ 9223372036854775807) :
    Calls Try.prog 27 #[.pointer (some ⟨g, 0, none⟩), .slice As snap.length cs] w fun e w' => ∃ pv, e = .returned (.tuple #[pv, .int .i64 (formatP d snap).e]) ∧ DkAt w' g k m c (formatP d snap).d ∧ Only w w' [g, k, m] ∧
      (((formatP d snap).e ≠ 0 ∧ pv = .pointer none) ∨ ((formatP d snap).e = 0 ∧ ∃ x, pv = .pointer (some ⟨x, 0, none⟩) ∧ w.heap.size ≤ x ∧ JLog w' x g k m c none (formatLg d snap))) := by
  refine (format_any g k m c d As cs snap w hd hs hAs hsc hm).mono ?_
  rintro e w' ⟨R, hR, hd', ho, h⟩
  subst hR
  rcases h with ⟨hne, rfl⟩ | ⟨h0, x, vs, rfl, hx, hlg, hob⟩
  · exact ⟨_, rfl, hd', ho, .inl ⟨hne, rfl⟩⟩
  · exact ⟨_, by rw [h0]; rfl, hd', ho, .inr ⟨h0, x, rfl, hx, vs, _, [], hlg, OB.mono hob (Nat.zero_le _), ⟨RowFrom.nil _ _, by simp⟩, rfl, rfl⟩⟩
theorem open_log (g k m c : Nat) (d : Dsk) (w : World) (hd : DkAt w g k m c d) :
    Calls Try.prog 12 #[.pointer (some ⟨g, 0, none⟩)] w fun e w' => ∃ pv, e = .returned (.tuple #[pv, .int .i64 (openP d).e]) ∧ DkAt w' g k m c (openP d).d ∧ Only w w' [g, k, m] ∧
      (((openP d).e ≠ 0 ∧ pv = .pointer none) ∨ ((openP d).e = 0 ∧ ∃ x q, pv = .pointer (some ⟨x, 0, none⟩) ∧ w.heap.size ≤ x ∧ JLog w' x g k m c q (openLg d) ∧ d.hasP ≠ [] ∧ ∀ j, q = some j → w.heap.size ≤ j)) := by
  refine (open_any g k m c d w hd).mono ?_
  rintro e w' ⟨R, hR, hd', ho, h⟩
  subst hR
  rcases h with ⟨hne, rfl⟩ | ⟨h0, x, vs, rv, s, rs, rfl, hx, hh, hlg, hob, hrs, hq⟩
  · exact ⟨_, rfl, hd', ho, .inl ⟨hne, rfl⟩⟩
  · refine ⟨_, by rw [h0]; rfl, hd', ho, .inr ⟨h0, x, rv.ownBlock, rfl, hx, ?_, by rw [hh]; simp, hq⟩⟩
    have hl : rs.length = d.hasP.tail.length := by rw [hh]; simp
    refine ⟨vs, rv, rs, ?_, ?_, hrs, ?_, rfl⟩
    · unfold openLg
      dsimp only
      rw [← hl]
      exact hlg
    · unfold openLg
      dsimp only
      rw [hh]
      exact OB.mono hob (Nat.zero_le _)
    · unfold openLg
      dsimp only
      rw [hh]
      rfl
end Go.Proofs.Ytjfpanamkkdebaa
