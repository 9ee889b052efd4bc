/- A half's room, a page's place, a page seen. -/
import Derived.Test.YtjfpanamkkdebaaJnC
namespace Go.Proofs.Ytjfpanamkkdebaa
open Go.RowKit
set_option linter.unusedVariables false
set_option linter.unusedSimpArgs false
/-- How many pages a half has. -/
def Dsk.room (d : Dsk) : Nat := (d.kept.length - 2) / 2
def Dsk.place (d : Dsk) (half i : Nat) : Nat := 2 + half * d.room + i
theorem Dsk.room_tdiv (d : Dsk) (h : 0 < d.kept.length) : ((d.kept.length : Int) - 2).tdiv 2 = (d.room : Int) := by
  unfold Dsk.room
  rcases Nat.lt_or_ge 1 d.kept.length with h1 | h1
  · rw [Int.tdiv_eq_ediv_of_nonneg (by omega)]; omega
  · have : d.kept.length = 1 := by omega
    rw [this]; decide
theorem Dsk.room_le (d : Dsk) (h : d.kept.length ≤ 4096) : d.room ≤ 2047 := by unfold Dsk.room; omega
set_option maxHeartbeats 800000 in
theorem room_any (g k m c : Nat) (d : Dsk) (w : World) (h : DkAt w g k m c d) :
    Calls Try.prog 50 #[.pointer (some ⟨g, 0, none⟩)] w fun e w' => e = .returned (.int .i64 d.room) ∧ w = w' := by
  have HS := Lib.hid (size_any g k m c d w h)
  have h1 := h.ok.most
  have h2 := h.ok.pos
  have hq := d.room_tdiv h2
  have hr := d.room_le h1
  generalize d.room = R at *
  generalize d.kept.length = n at *
  go_enter Try.func50, Try.ntmps50
  go_wp2_with (go_at_call 11; refine HS.out.mono ?_; rintro e w' ⟨rfl, rfl⟩)
  go_ret
  exact ⟨rfl, rfl⟩
set_option maxHeartbeats 800000 in
theorem at_any (g k m c : Nat) (d : Dsk) (hf ix : Nat) (w : World) (h : DkAt w g k m c d) (h1 : hf ≤ 1) (h2 : ix ≤ 65536) :
    Calls Try.prog 61 #[.pointer (some ⟨g, 0, none⟩), .int .i64 hf, .int .i64 ix] w fun e w' => e = .returned (.int .i64 (d.place hf ix : Nat)) ∧ w = w' := by
  have HR := Lib.hid (room_any g k m c d w h)
  have hr := d.room_le h.ok.most
  have hp : d.place hf ix = 2 + hf * d.room + ix := rfl
  generalize d.place hf ix = P at *
  generalize d.room = R at *
  clear h
  obtain ⟨M, hM⟩ : ∃ M, hf * R = M := ⟨_, rfl⟩
  have hm : M ≤ 2047 := by rw [← hM]; exact Nat.le_trans (Nat.mul_le_mul h1 (Nat.le_refl R)) (by omega)
  have hMi : (hf : Int) * (R : Int) = (M : Int) := by rw [← hM]; push_cast; rfl
  rw [hM] at hp
  clear hM
  go_enter Try.func61, Try.ntmps61
  go_wp2_with (go_at_call 50; refine HR.out.mono ?_; rintro e w' ⟨rfl, rfl⟩)
  go_ret
  exact ⟨ret_int (by omega), rfl⟩
theorem results_row_tmp {P : Program} {fn : Func} {p : Tmp} {q : Tmp} {ty : TypeId} (h : fn.results = #[.cell p ty, .tmp q]) (tmps : Array Value) (w : World) (g : Nat) (t : TypeId) (cs : Array Value) (fr : Nat × Nat) (d : TypeDesc) (v : Value)
    (hp : tmps.getD p undef = .pointer (some ⟨g, 0, none⟩)) (hq : tmps.getD q undef = v) (hg : w.heap[g]? = some (.cells cs t fr))
    (hu : P.underlying ty = some d) (hd : (match d with | .struct _ | .array _ _ => true | _ => false) = true) (hi : (P.info? ty).map (·.size) = some cs.size) :
    (results fn tmps).run P w = .ok (.tuple #[.agg cs, v]) w := by
  have hp' : tmps[p]?.getD undef = .pointer (some ⟨g, 0, none⟩) := by simpa using hp
  have hq' : tmps[q]?.getD undef = v := by simpa using hq
  simp [results, h, hp', hq', asAddr, run_loadVar_row w g t ty cs fr d hg hu hd hi]
/-- A page of a device, taken apart. -/
def Dsk.sheet (d : Dsk) (i : Int) : Sheet := if d.readE i = 0 then lookP (pad (d.now i.toNat)) else ⟨0, 0, [], false, 0⟩
set_option maxHeartbeats 1600000 in
theorem see_any (g k m c : Nat) (d : Dsk) (i : Int) (w : World) (h : DkAt w g k m c d) :
    Calls Try.prog 53 #[.pointer (some ⟨g, 0, none⟩), .int .i64 i] w fun e w' => ∃ v, e = .returned (.tuple #[shv (d.sheet i) v, .int .i64 (d.readE i)]) ∧ OB w' w.heap.size v (d.sheet i).bytes ∧ Below w.heap.size w w' := by
  have HR : ∀ W, Below w.heap.size w W → Calls Try.prog 69 #[.pointer (some ⟨g, 0, none⟩), .int .i64 i] W fun e w' => ∃ v, e = .returned (.tuple #[v, .int .i64 (d.readE i)]) ∧ OB w' W.heap.size v (if d.readE i = 0 then pad (d.now i.toNat) else []) ∧ Below W.heap.size W w' := fun W hb => read_any g k m c d i W (h.below hb)
  have hnl := h.ok.now i.toNat
  have hpl := pad_length hnl
  have hb0 : Below w.heap.size w (w.alloc (.cells #[.int .i64 0, .int .i64 0, .slice none 0 0, .bool false, .int .u32 0] 97)) := (Below.refl _ _).alloc (Nat.le_refl _) _
  have hz0 := heap_alloc_new w (.cells #[.int .i64 0, .int .i64 0, .slice none 0 0, .bool false, .int .u32 0] 97)
  have hs0 : (w.alloc (.cells #[.int .i64 0, .int .i64 0, .slice none 0 0, .bool false, .int .u32 0] 97)).heap.size = w.heap.size + 1 := by simp
  have HB0 := Lib.hid hb0
  have HZ0 := Lib.hid hz0
  have HS0 := Lib.hid hs0
  clear h hb0 hz0 hs0
  by_cases hz : d.readE i = 0
  · have hsh : d.sheet i = lookP (pad (d.now i.toNat)) := by unfold Dsk.sheet; rw [if_pos hz]
    rw [hsh]
    rw [hz, if_pos rfl] at HR
    rw [hz]
    clear hz hsh
    generalize pad (d.now i.toNat) = b at *
    obtain ⟨S, hS⟩ : ∃ S, lookP b = S := ⟨_, rfl⟩
    rw [hS]
    have HSe := Lib.hid hS
    clear hS
    obtain ⟨p1, p2, bs, wh, tl⟩ := S
    have HRd := Lib.hid (HR _ HB0.out)
    clear hnl HR
    have HP := Lib.hid hpl
    clear hpl
    go_enter Try.func53, Try.ntmps53
    go_wp2_with fail
    generalize w.alloc (.cells #[.int .i64 0, .int .i64 0, .slice none 0 0, .bool false, .int .u32 0] 97) = wA at *
    refine HRd.out.mono ?_
    rintro e w' ⟨v, rfl, ho, hb⟩
    obtain ⟨A, c2, rfl, hlc, -⟩ := OB.form ho
    rw [HP.out] at hlc
    have HL := look_any A c2 b w' HP.out hlc (RB.of_own ho)
    rw [← HP.out] at HL
    rw [HSe.out] at HL
    unfold shv at HL
    have HL := Lib.hid HL
    have hzd := (hb.block w.heap.size (by rw [HS0.out]; omega)).trans HZ0.out
    have HZd := Lib.hid hzd
    have HB := Lib.hid hb
    have hlz := blk_lt hzd
    clear ho hb hzd
    go_wp2_with (go_at_call 70; refine HL.out.mono ?_; rintro e w2 ⟨v2, rfl, ho, hb⟩; obtain ⟨A2, c3, rfl, -⟩ := OB.form ho; have hzd := (hb.block w.heap.size hlz).trans HZd.out; have HO := Lib.hid ho; have HB2 := Lib.hid hb; have kz0 : w2.cell? ⟨w.heap.size, 0, none⟩ = some (.int .i64 0) := blk_cell hzd; have kz1 : w2.cell? ⟨w.heap.size, 1, none⟩ = some (.int .i64 0) := blk_cell hzd; have kz2 : w2.cell? ⟨w.heap.size, 2, none⟩ = some (.slice none 0 0) := blk_cell hzd; have kz3 : w2.cell? ⟨w.heap.size, 3, none⟩ = some (.bool false) := blk_cell hzd; have kz4 : w2.cell? ⟨w.heap.size, 4, none⟩ = some (.int .u32 0) := blk_cell hzd; have fz0 : w2.frozen? ⟨w.heap.size, 0, none⟩ = false := blk_free hzd; have fz1 : w2.frozen? ⟨w.heap.size, 1, none⟩ = false := blk_free hzd; have fz2 : w2.frozen? ⟨w.heap.size, 2, none⟩ = false := blk_free hzd; have fz3 : w2.frozen? ⟨w.heap.size, 3, none⟩ = false := blk_free hzd; have fz4 : w2.frozen? ⟨w.heap.size, 4, none⟩ = false := blk_free hzd; clear ho hb HL)
    have hz5 := heap_setCell_same _ _ 4 _ _ (.int .u32 tl) (heap_setCell_same _ _ 3 _ _ (.bool wh) (heap_setCell_same _ _ 2 _ _ (.slice A2 bs.length c3) (heap_setCell_same _ _ 1 _ _ (.int .i64 p2) (heap_setCell_same w2 _ 0 _ _ (.int .i64 p1) hzd))))
    refine bodyPost_ret (results_row_tmp rfl _ _ w.heap.size 97 _ (0, 0) _ (.int .i64 0) rfl rfl hz5 Try.underlying97 rfl (by kernel_rfl)) rfl ?_
    have hB0 : Below w.heap.size w w2 := (HB0.out.trans (HB.out.mono (by rw [HS0.out]; omega))).trans (HB2.out.mono (Nat.le_of_lt hlz))
    have hB5 := ((((hB0.setCell (p := ⟨w.heap.size, 0, none⟩) (Nat.le_refl _) (.int .i64 p1)).setCell (p := ⟨w.heap.size, 1, none⟩) (Nat.le_refl _) (.int .i64 p2)).setCell (p := ⟨w.heap.size, 2, none⟩) (Nat.le_refl _) (.slice A2 bs.length c3)).setCell (p := ⟨w.heap.size, 3, none⟩) (Nat.le_refl _) (.bool wh)).setCell (p := ⟨w.heap.size, 4, none⟩) (Nat.le_refl _) (.int .u32 tl)
    have ho5 := ownsRow_setCell_below (ownsRow_setCell_below (ownsRow_setCell_below (ownsRow_setCell_below (ownsRow_setCell_below HO.out (a := ⟨w.heap.size, 0, none⟩) hlz (.int .i64 p1)) (a := ⟨w.heap.size, 1, none⟩) hlz (.int .i64 p2)) (a := ⟨w.heap.size, 2, none⟩) hlz (.slice A2 bs.length c3)) (a := ⟨w.heap.size, 3, none⟩) hlz (.bool wh)) (a := ⟨w.heap.size, 4, none⟩) hlz (.int .u32 tl)
    exact ⟨_, rfl, OB.mono ho5 (Nat.le_of_lt hlz), hB5⟩
  · have hsh : d.sheet i = ⟨0, 0, [], false, 0⟩ := by unfold Dsk.sheet; rw [if_neg hz]
    rw [hsh]
    rw [if_neg hz] at HR
    have hz2 : ¬ ((d.readE i : Int) = 0) := by omega
    have hz3 : ((d.readE i : Int) == 0) = false := by simp; omega
    generalize d.readE i = E at *
    have HRd := Lib.hid (HR _ HB0.out)
    clear hsh hnl hpl HR
    go_enter Try.func53, Try.ntmps53
    go_wp2_with fail
    generalize w.alloc (.cells #[.int .i64 0, .int .i64 0, .slice none 0 0, .bool false, .int .u32 0] 97) = wA at *
    refine HRd.out.mono ?_
    rintro e w' ⟨v, rfl, ho, hb⟩
    have hzd := (hb.block w.heap.size (by rw [HS0.out]; omega)).trans HZ0.out
    have HB := Lib.hid hb
    have kz0 : w'.cell? ⟨w.heap.size, 0, none⟩ = some (.int .i64 0) := blk_cell hzd
    have kz1 : w'.cell? ⟨w.heap.size, 1, none⟩ = some (.int .i64 0) := blk_cell hzd
    have kz2 : w'.cell? ⟨w.heap.size, 2, none⟩ = some (.slice none 0 0) := blk_cell hzd
    have kz3 : w'.cell? ⟨w.heap.size, 3, none⟩ = some (.bool false) := blk_cell hzd
    have kz4 : w'.cell? ⟨w.heap.size, 4, none⟩ = some (.int .u32 0) := blk_cell hzd
    have fz : ∀ k, w'.frozen? ⟨w.heap.size, k, none⟩ = false := fun k => blk_free hzd
    have fz0 := fz 0
    have fz1 := fz 1
    have fz2 := fz 2
    have fz3 := fz 3
    have fz4 := fz 4
    clear hb fz
    go_wp2_with fail
    have hz5 := heap_setCell_same _ _ 4 _ _ (.int .u32 0) (heap_setCell_same _ _ 3 _ _ (.bool false) (heap_setCell_same _ _ 2 _ _ (.slice none 0 0) (heap_setCell_same _ _ 1 _ _ (.int .i64 0) (heap_setCell_same w' _ 0 _ _ (.int .i64 0) hzd))))
    refine bodyPost_ret (results_row_tmp rfl _ _ w.heap.size 97 _ (0, 0) _ (.int .i64 E) rfl rfl hz5 Try.underlying97 rfl (by kernel_rfl)) rfl ?_
    have hB0 : Below w.heap.size w w' := HB0.out.trans (HB.out.mono (by rw [HS0.out]; omega))
    have hB5 := ((((hB0.setCell (p := ⟨w.heap.size, 0, none⟩) (Nat.le_refl _) (.int .i64 0)).setCell (p := ⟨w.heap.size, 1, none⟩) (Nat.le_refl _) (.int .i64 0)).setCell (p := ⟨w.heap.size, 2, none⟩) (Nat.le_refl _) (.slice none 0 0)).setCell (p := ⟨w.heap.size, 3, none⟩) (Nat.le_refl _) (.bool false)).setCell (p := ⟨w.heap.size, 4, none⟩) (Nat.le_refl _) (.int .u32 0)
    exact ⟨.slice none 0 0, rfl, World.ownsRow_nil _ _ _ _, hB5⟩
end Go.Proofs.Ytjfpanamkkdebaa
