/- A half's room, a page's place, a page seen.
   A page written, with another stamp than it had.
   A log in memory; grow, turn.
   Bytes poured onto pages.
   A record with its length and its sum; the next epoch of a half.
   Rows of records in memory; what laying a log anew makes, plain. -/
import Derived.Test.YtjfpanamkkdebaaMaG
import Derived.Test.YtjfpanamkkdebaaMaA
import Derived.ArgAppend
namespace Go.Proofs.Ytjfpanamkkdebaa
open Go.RowKit
set_option linter.unusedVariables false
set_option linter.unusedSimpArgs false
/-- How many pages a half has. -/
def Dsk.room (d : Dsk) : Nat := (d.kept.length - 2) / 2
def Dsk.place (d : Dsk) (half i : Nat) : Nat := 2 + half * d.room + i
theorem Dsk.room_tdiv (d : Dsk) (h : 0 < d.kept.length) : ((d.kept.length : Int) - 2).tdiv 2 = (d.room : Int) := by
  unfold Dsk.room
  rcases Nat.lt_or_ge 1 d.kept.length with h1 | h1
  · rw [Int.tdiv_eq_ediv_of_nonneg (by omega)]; omega
  · have : d.kept.length = 1 := by omega
    rw [this]; decide
theorem Dsk.room_le (d : Dsk) (h : d.kept.length ≤ 4096) : d.room ≤ 2047 := by unfold Dsk.room; omega
set_option maxHeartbeats 800000 in
theorem room_any (g k m c : Nat) (d : Dsk) (w : World) (h : DkAt w g k m c d) :
    Calls Try.prog 50 #[.pointer (some ⟨g, 0, none⟩)] w fun e w' => e = .returned (.int .i64 d.room) ∧ w = w' := by
  have HS := Lib.hid (size_any g k m c d w h)
  have h1 := h.ok.most
  have h2 := h.ok.pos
  have hq := d.room_tdiv h2
  have hr := d.room_le h1
  generalize d.room = R at *
  generalize d.kept.length = n at *
  go_enter Try.func50, Try.ntmps50
  go_wp2_with (go_at_call 11; refine HS.out.mono ?_; rintro e w' ⟨rfl, rfl⟩)
  go_ret
  exact ⟨rfl, rfl⟩
set_option maxHeartbeats 800000 in
theorem at_any (g k m c : Nat) (d : Dsk) (hf ix : Nat) (w : World) (h : DkAt w g k m c d) (h1 : hf ≤ 1) (h2 : ix ≤ 65536) :
    Calls Try.prog 61 #[.pointer (some ⟨g, 0, none⟩), .int .i64 hf, .int .i64 ix] w fun e w' => e = .returned (.int .i64 (d.place hf ix : Nat)) ∧ w = w' := by
  have HR := Lib.hid (room_any g k m c d w h)
  have hr := d.room_le h.ok.most
  have hp : d.place hf ix = 2 + hf * d.room + ix := rfl
  generalize d.place hf ix = P at *
  generalize d.room = R at *
  clear h
  obtain ⟨M, hM⟩ : ∃ M, hf * R = M := ⟨_, rfl⟩
  have hm : M ≤ 2047 := by rw [← hM]; exact Nat.le_trans (Nat.mul_le_mul h1 (Nat.le_refl R)) (by omega)
  have hMi : (hf : Int) * (R : Int) = (M : Int) := by rw [← hM]; push_cast; rfl
  rw [hM] at hp
  clear hM
  go_enter Try.func61, Try.ntmps61
  go_wp2_with (go_at_call 50; refine HR.out.mono ?_; rintro e w' ⟨rfl, rfl⟩)
  go_ret
  exact ⟨ret_int (by omega), rfl⟩
theorem results_row_tmp {P : Program} {fn : Func} {p : Tmp} {q : Tmp} {ty : TypeId} (h : fn.results = #[.cell p ty, .tmp q]) (tmps : Array Value) (w : World) (g : Nat) (t : TypeId) (cs : Array Value) (fr : Nat × Nat) (d : TypeDesc) (v : Value)
    (hp : tmps.getD p undef = .pointer (some ⟨g, 0, none⟩)) (hq : tmps.getD q undef = v) (hg : w.heap[g]? = some (.cells cs t fr))
    (hu : P.underlying ty = some d) (hd : (match d with | .struct _ | .array _ _ => true | _ => false) = true) (hi : (P.info? ty).map (·.size) = some cs.size) :
    (results fn tmps).run P w = .ok (.tuple #[.agg cs, v]) w := by
  have hp' : tmps[p]?.getD undef = .pointer (some ⟨g, 0, none⟩) := by simpa using hp
  have hq' : tmps[q]?.getD undef = v := by simpa using hq
  simp [results, h, hp', hq', asAddr, run_loadVar_row w g t ty cs fr d hg hu hd hi]
/-- A page of a device, taken apart. -/
def Dsk.sheet (d : Dsk) (i : Int) : Sheet := if d.readE i = 0 then lookP (pad (d.now i.toNat)) else ⟨0, 0, [], false, 0⟩
set_option maxHeartbeats 1600000 in
theorem see_any (g k m c : Nat) (d : Dsk) (i : Int) (w : World) (h : DkAt w g k m c d) :
    Calls Try.prog 53 #[.pointer (some ⟨g, 0, none⟩), .int .i64 i] w fun e w' => ∃ v, e = .returned (.tuple #[shv (d.sheet i) v, .int .i64 (d.readE i)]) ∧ OB w' w.heap.size v (d.sheet i).bytes ∧ Below w.heap.size w w' := by
  have HR : ∀ W, Below w.heap.size w W → Calls Try.prog 69 #[.pointer (some ⟨g, 0, none⟩), .int .i64 i] W fun e w' => ∃ v, e = .returned (.tuple #[v, .int .i64 (d.readE i)]) ∧ OB w' W.heap.size v (if d.readE i = 0 then pad (d.now i.toNat) else []) ∧ Below W.heap.size W w' := fun W hb => read_any g k m c d i W (h.below hb)
  have hnl := h.ok.now i.toNat
  have hpl := pad_length hnl
  have hb0 : Below w.heap.size w (w.alloc (.cells #[.int .i64 0, .int .i64 0, .slice none 0 0, .bool false, .int .u32 0] 97)) := (Below.refl _ _).alloc (Nat.le_refl _) _
  have hz0 := heap_alloc_new w (.cells #[.int .i64 0, .int .i64 0, .slice none 0 0, .bool false, .int .u32 0] 97)
  have hs0 : (w.alloc (.cells #[.int .i64 0, .int .i64 0, .slice none 0 0, .bool false, .int .u32 0] 97)).heap.size = w.heap.size + 1 := by simp
  have HB0 := Lib.hid hb0
  have HZ0 := Lib.hid hz0
  have HS0 := Lib.hid hs0
  clear h hb0 hz0 hs0
  by_cases hz : d.readE i = 0
  · have hsh : d.sheet i = lookP (pad (d.now i.toNat)) := by unfold Dsk.sheet; rw [if_pos hz]
    rw [hsh]
    rw [hz, if_pos rfl] at HR
    rw [hz]
    clear hz hsh
    generalize pad (d.now i.toNat) = b at *
    obtain ⟨S, hS⟩ : ∃ S, lookP b = S := ⟨_, rfl⟩
    rw [hS]
    have HSe := Lib.hid hS
    clear hS
    obtain ⟨p1, p2, bs, wh, tl⟩ := S
    have HRd := Lib.hid (HR _ HB0.out)
    clear hnl HR
    have HP := Lib.hid hpl
    clear hpl
    go_enter Try.func53, Try.ntmps53
    go_wp2_with fail
    generalize w.alloc (.cells #[.int .i64 0, .int .i64 0, .slice none 0 0, .bool false, .int .u32 0] 97) = wA at *
    refine HRd.out.mono ?_
    rintro e w' ⟨v, rfl, ho, hb⟩
    obtain ⟨A, c2, rfl, hlc, -⟩ := OB.form ho
    rw [HP.out] at hlc
    have HL := look_any A c2 b w' HP.out hlc (RB.of_own ho)
    rw [← HP.out] at HL
    rw [HSe.out] at HL
    unfold shv at HL
    have HL := Lib.hid HL
    have hzd := (hb.block w.heap.size (by rw [HS0.out]; omega)).trans HZ0.out
    have HZd := Lib.hid hzd
    have HB := Lib.hid hb
    have hlz := blk_lt hzd
    clear ho hb hzd
    go_wp2_with (go_at_call 70; refine HL.out.mono ?_; rintro e w2 ⟨v2, rfl, ho, hb⟩; obtain ⟨A2, c3, rfl, -⟩ := OB.form ho; have hzd := (hb.block w.heap.size hlz).trans HZd.out; have HO := Lib.hid ho; have HB2 := Lib.hid hb; have kz0 : w2.cell? ⟨w.heap.size, 0, none⟩ = some (.int .i64 0) := blk_cell hzd; have kz1 : w2.cell? ⟨w.heap.size, 1, none⟩ = some (.int .i64 0) := blk_cell hzd; have kz2 : w2.cell? ⟨w.heap.size, 2, none⟩ = some (.slice none 0 0) := blk_cell hzd; have kz3 : w2.cell? ⟨w.heap.size, 3, none⟩ = some (.bool false) := blk_cell hzd; have kz4 : w2.cell? ⟨w.heap.size, 4, none⟩ = some (.int .u32 0) := blk_cell hzd; have fz0 : w2.frozen? ⟨w.heap.size, 0, none⟩ = false := blk_free hzd; have fz1 : w2.frozen? ⟨w.heap.size, 1, none⟩ = false := blk_free hzd; have fz2 : w2.frozen? ⟨w.heap.size, 2, none⟩ = false := blk_free hzd; have fz3 : w2.frozen? ⟨w.heap.size, 3, none⟩ = false := blk_free hzd; have fz4 : w2.frozen? ⟨w.heap.size, 4, none⟩ = false := blk_free hzd; clear ho hb HL)
    have hz5 := heap_setCell_same _ _ 4 _ _ (.int .u32 tl) (heap_setCell_same _ _ 3 _ _ (.bool wh) (heap_setCell_same _ _ 2 _ _ (.slice A2 bs.length c3) (heap_setCell_same _ _ 1 _ _ (.int .i64 p2) (heap_setCell_same w2 _ 0 _ _ (.int .i64 p1) hzd))))
    refine bodyPost_ret (results_row_tmp rfl _ _ w.heap.size 97 _ (0, 0) _ (.int .i64 0) rfl rfl hz5 Try.underlying97 rfl (by kernel_rfl)) rfl ?_
    have hB0 : Below w.heap.size w w2 := (HB0.out.trans (HB.out.mono (by rw [HS0.out]; omega))).trans (HB2.out.mono (Nat.le_of_lt hlz))
    have hB5 := ((((hB0.setCell (p := ⟨w.heap.size, 0, none⟩) (Nat.le_refl _) (.int .i64 p1)).setCell (p := ⟨w.heap.size, 1, none⟩) (Nat.le_refl _) (.int .i64 p2)).setCell (p := ⟨w.heap.size, 2, none⟩) (Nat.le_refl _) (.slice A2 bs.length c3)).setCell (p := ⟨w.heap.size, 3, none⟩) (Nat.le_refl _) (.bool wh)).setCell (p := ⟨w.heap.size, 4, none⟩) (Nat.le_refl _) (.int .u32 tl)
    have ho5 := ownsRow_setCell_below (ownsRow_setCell_below (ownsRow_setCell_below (ownsRow_setCell_below (ownsRow_setCell_below HO.out (a := ⟨w.heap.size, 0, none⟩) hlz (.int .i64 p1)) (a := ⟨w.heap.size, 1, none⟩) hlz (.int .i64 p2)) (a := ⟨w.heap.size, 2, none⟩) hlz (.slice A2 bs.length c3)) (a := ⟨w.heap.size, 3, none⟩) hlz (.bool wh)) (a := ⟨w.heap.size, 4, none⟩) hlz (.int .u32 tl)
    exact ⟨_, rfl, OB.mono ho5 (Nat.le_of_lt hlz), hB5⟩
  · have hsh : d.sheet i = ⟨0, 0, [], false, 0⟩ := by unfold Dsk.sheet; rw [if_neg hz]
    rw [hsh]
    rw [if_neg hz] at HR
    have hz2 : ¬ ((d.readE i : Int) = 0) := by omega
    have hz3 : ((d.readE i : Int) == 0) = false := by simp; omega
    generalize d.readE i = E at *
    have HRd := Lib.hid (HR _ HB0.out)
    clear hsh hnl hpl HR
    go_enter Try.func53, Try.ntmps53
    go_wp2_with fail
    generalize w.alloc (.cells #[.int .i64 0, .int .i64 0, .slice none 0 0, .bool false, .int .u32 0] 97) = wA at *
    refine HRd.out.mono ?_
    rintro e w' ⟨v, rfl, ho, hb⟩
    have hzd := (hb.block w.heap.size (by rw [HS0.out]; omega)).trans HZ0.out
    have HB := Lib.hid hb
    have kz0 : w'.cell? ⟨w.heap.size, 0, none⟩ = some (.int .i64 0) := blk_cell hzd
    have kz1 : w'.cell? ⟨w.heap.size, 1, none⟩ = some (.int .i64 0) := blk_cell hzd
    have kz2 : w'.cell? ⟨w.heap.size, 2, none⟩ = some (.slice none 0 0) := blk_cell hzd
    have kz3 : w'.cell? ⟨w.heap.size, 3, none⟩ = some (.bool false) := blk_cell hzd
    have kz4 : w'.cell? ⟨w.heap.size, 4, none⟩ = some (.int .u32 0) := blk_cell hzd
    have fz : ∀ k, w'.frozen? ⟨w.heap.size, k, none⟩ = false := fun k => blk_free hzd
    have fz0 := fz 0
    have fz1 := fz 1
    have fz2 := fz 2
    have fz3 := fz 3
    have fz4 := fz 4
    clear hb fz
    go_wp2_with fail
    have hz5 := heap_setCell_same _ _ 4 _ _ (.int .u32 0) (heap_setCell_same _ _ 3 _ _ (.bool false) (heap_setCell_same _ _ 2 _ _ (.slice none 0 0) (heap_setCell_same _ _ 1 _ _ (.int .i64 0) (heap_setCell_same w' _ 0 _ _ (.int .i64 0) hzd))))
    refine bodyPost_ret (results_row_tmp rfl _ _ w.heap.size 97 _ (0, 0) _ (.int .i64 E) rfl rfl hz5 Try.underlying97 rfl (by kernel_rfl)) rfl ?_
    have hB0 : Below w.heap.size w w' := HB0.out.trans (HB.out.mono (by rw [HS0.out]; omega))
    have hB5 := ((((hB0.setCell (p := ⟨w.heap.size, 0, none⟩) (Nat.le_refl _) (.int .i64 0)).setCell (p := ⟨w.heap.size, 1, none⟩) (Nat.le_refl _) (.int .i64 0)).setCell (p := ⟨w.heap.size, 2, none⟩) (Nat.le_refl _) (.slice none 0 0)).setCell (p := ⟨w.heap.size, 3, none⟩) (Nat.le_refl _) (.bool false)).setCell (p := ⟨w.heap.size, 4, none⟩) (Nat.le_refl _) (.int .u32 0)
    exact ⟨.slice none 0 0, rfl, World.ownsRow_nil _ _ _ _, hB5⟩
end Go.Proofs.Ytjfpanamkkdebaa
namespace Go.Proofs.Ytjfpanamkkdebaa
open Go.RowKit
set_option linter.unusedVariables false
set_option linter.unusedSimpArgs false
def Dsk.stamp (d : Dsk) (i : Int) : Nat := ((d.sheet i).tail + 1) % 4294967296
def Dsk.put (d : Dsk) (i : Int) (ep ix : Nat) (bs : List UInt8) : Dsk := if d.readE i = 0 then d.wrote i (foldP ep ix bs (d.stamp i)) else d
def Dsk.putE (d : Dsk) (i : Int) (ep ix : Nat) (bs : List UInt8) : Nat := if d.readE i = 0 then d.writeE i (foldP ep ix bs (d.stamp i)) else d.readE i
set_option maxHeartbeats 1600000 in
theorem put_any (g k m c : Nat) (d : Dsk) (i : Int) (ep ix : Nat) (A : Option Addr) (cc : Nat) (bs : List UInt8) (w : World) (h : DkAt w g k m c d) (hep : ep < 4294967296) (hix : ix < 65536) (hl : bs.length ≤ 113) (hr : RB w A bs) (hA : A = none → cc = 0) :
    Calls Try.prog 63 #[.pointer (some ⟨g, 0, none⟩), .int .i64 i, .int .i64 ep, .int .i64 ix, .slice A bs.length cc] w fun e w' => e = .returned (.int .i64 (d.putE i ep ix bs)) ∧ DkAt w' g k m c (d.put i ep ix bs) ∧ Only w w' [g, m] := by
  have HS := see_any g k m c d i w h
  by_cases hz : d.readE i = 0
  · have hst : d.stamp i = ((d.sheet i).tail + 1) % 4294967296 := rfl
    unfold Dsk.put Dsk.putE
    rw [if_pos hz, if_pos hz]
    rw [hz] at HS
    have hgk := h.gk
    have hgm := h.gm
    have hlt := h.lt
    generalize d.stamp i = st at *
    obtain ⟨S, hS⟩ : ∃ S, d.sheet i = S := ⟨_, rfl⟩
    rw [hS] at HS hst
    have HF := Lib.hid (fun W (hb : Below w.heap.size w W) => fold_any ep ix st A cc bs W hep (by omega) (by rw [hst]; exact Nat.mod_lt _ (by decide)) hl (hr.below hb) hA)
    have HW := Lib.hid (fun (A : Option Addr) (cc : Nat) (W : World) (hb : Below w.heap.size w W) (hr : RB W A (foldP ep ix bs st)) (hA : ∀ a, A = some a → (foldP ep ix bs st) ≠ [] → a.block ≠ g) => write_any g k m c d i A cc (foldP ep ix bs st) W (h.below hb) hr hA (by rw [foldP_length hl]; decide))
    have hfl := foldP_length (ep := ep) (ix := ix) (st := st) hl
    clear h hS hz
    generalize foldP ep ix bs st = F at *
    obtain ⟨p1, p2, bs2, wh, tl⟩ := S
    unfold shv at HS
    have HS := Lib.hid HS
    have HST := Lib.hid hst
    have HFL := Lib.hid hfl
    clear hst hfl hr hA
    go_enter Try.func63, Try.ntmps63
    go_wp2_with fail
    refine HS.out.mono ?_
    rintro e w1 ⟨v, rfl, ho, hb⟩
    obtain ⟨A2, c2, rfl, -⟩ := OB.form ho
    have HB := Lib.hid hb
    clear ho hb
    go_wp2_with fail
    have hbB : Below w.heap.size w (w1.alloc (.cells #[.int .i64 p1, .int .i64 p2, .slice A2 bs2.length c2, .bool wh, .int .u32 tl] 97)) := HB.out.alloc HB.out.size _
    have est : ((tl : Int) + 1) % 4294967296 = (st : Int) := by have h0 : st = (tl + 1) % 4294967296 := HST.out; rw [h0]; omega
    rw [est]
    generalize w1.alloc (.cells #[.int .i64 p1, .int .i64 p2, .slice A2 bs2.length c2, .bool wh, .int .u32 tl] 97) = wB at *
    clear est
    have HBB := Lib.hid hbB
    clear hbB
    refine (HF.out _ HBB.out).mono ?_
    rintro e w2 ⟨v2, rfl, ho, hb⟩
    obtain ⟨A3, c3, rfl, -⟩ := OB.form ho
    have hb2 : Below w.heap.size w w2 := HBB.out.trans (hb.mono HBB.out.size)
    have HWW := Lib.hid (HW.out A3 c3 w2 hb2 (RB.of_own ho) (fun a e hne => by
      subst e
      rcases ho.2 with ⟨e1, _⟩ | ⟨g2, _, _, e1, e2, _⟩
      · cases e1
      · injection e1 with e1; injection e1 with e1; subst e1; have := HBB.out.size; show g2 ≠ g; omega))
    have HB2 := Lib.hid hb2
    clear ho hb hb2 HW HF
    go_wp2_with (go_at_call 10; refine HWW.out.mono ?_; rintro e w' ⟨rfl, hd, ho⟩)
    go_ret
    exact ⟨rfl, hd, (Only.of_below (HB2.out.mono (Nat.le_refl _)) _).trans ho⟩
  · unfold Dsk.put Dsk.putE
    rw [if_neg hz, if_neg hz]
    have hz2 : ¬ ((d.readE i : Int) = 0) := by omega
    have hz3 : ((d.readE i : Int) == 0) = false := by simp; omega
    unfold shv at HS
    generalize d.readE i = E at *
    have HS := Lib.hid HS
    have HK := Lib.hid h
    clear h
    go_enter Try.func63, Try.ntmps63
    go_wp2_with (go_at_call 53; refine HS.out.mono ?_; rintro e w' ⟨v, rfl, ho, hb⟩; obtain ⟨A2, c2, rfl, -⟩ := OB.form ho)
    have hb2 : ∀ o : Obj, Below w.heap.size w (w'.alloc o) := fun o => hb.alloc hb.size o
    go_ret
    exact ⟨rfl, HK.out.below (hb2 _), Only.of_below (hb2 _) _⟩
end Go.Proofs.Ytjfpanamkkdebaa
namespace Go.Proofs.Ytjfpanamkkdebaa
open Go.RowKit
set_option linter.unusedVariables false
set_option linter.unusedSimpArgs false
/-- A log's nine cells. -/
structure LgC (w : World) (l hf ep sl pg : Nat) (bv : Value) (g : Nat) (sv rv : Value) (su : Nat) : Prop where
  blk : w.heap[l]? = some (.cells #[.int .i64 hf, .int .i64 ep, .int .i64 sl, .int .i64 pg, bv, .pointer (some ⟨g, 0, none⟩), sv, rv, .int .i64 su] 65 (0, 0))
def growP (pg len n room : Nat) : Bool := decide (pg < room) && decide (n ≤ 113 - len + (room - pg - 1) * 113)
set_option maxHeartbeats 800000 in
theorem grow_any (pg n room c : Nat) (A : Option Addr) (bs : List UInt8) (w : World) (hp : pg ≤ 65536) (hl : bs.length ≤ 113) (hn : n ≤ 1000000000000) (hr : room ≤ 65536) :
    Calls Try.prog 49 #[.agg #[.int .i64 pg, .slice A bs.length c], .int .i64 n, .int .i64 room] w fun e w' => e = .returned (.bool (growP pg bs.length n room)) ∧ Below w.heap.size w w' := by
  unfold growP
  generalize bs.length = L at *
  by_cases h1 : pg < room
  · have hq : (decide (pg < room) && decide (n ≤ 113 - L + (room - pg - 1) * 113)) = decide (n ≤ 113 - L + (room - pg - 1) * 113) := by simp [h1]
    rw [hq]
    clear hq
    have h2 : ((pg : Int) < (room : Int)) := by omega
    go_enter Try.func49, Try.ntmps49
    go_wp2_with fail
    go_ret
    refine ⟨?_, (Below.refl _ _).alloc (Nat.le_refl _) _⟩
    rw [show decide ((n : Int) ≤ 113 - (L : Int) + ((room : Int) - (pg : Int) - 1) * 113) = decide (n ≤ 113 - L + (room - pg - 1) * 113) from decide_eq_decide.2 (by omega)]
    rfl
  · have hq : (decide (pg < room) && decide (n ≤ 113 - L + (room - pg - 1) * 113)) = false := by simp [h1]
    rw [hq]
    clear hq
    have h2 : ¬ ((pg : Int) < (room : Int)) := by omega
    go_enter Try.func49, Try.ntmps49
    go_wp2_with fail
    go_ret
    exact ⟨rfl, (Below.refl _ _).alloc (Nat.le_refl _) _⟩
set_option maxHeartbeats 800000 in
theorem turn_any (l hf ep sl pg : Nat) (bv : Value) (g : Nat) (sv rv : Value) (su : Nat) (w : World) (h : LgC w l hf ep sl pg bv g sv rv su) (hp : pg ≤ 65536) :
    Calls Try.prog 52 #[.pointer (some ⟨l, 0, none⟩)] w fun e w' => e = .returned (.tuple #[]) ∧ LgC w' l hf ep sl (pg + 1) (.slice none 0 0) g sv rv su ∧ Only w w' [l] := by
  have HB := Lib.hid h.blk
  have k3 : w.cell? ⟨l, 3, none⟩ = some (.int .i64 pg) := blk_cell h.blk
  have k4 : w.cell? ⟨l, 4, none⟩ = some bv := blk_cell h.blk
  have f3 : w.frozen? ⟨l, 3, none⟩ = false := blk_free h.blk
  have f4 : w.frozen? ⟨l, 4, none⟩ = false := blk_free h.blk
  clear h
  go_enter Try.func52, Try.ntmps52
  go_wp2_with fail
  refine bodyPost_end (results_none rfl _ _ _) rfl ?_
  have hb1 := heap_setCell_same _ _ 3 _ _ (.int .i64 ((pg : Int) + 1)) HB.out
  have hb2 := heap_setCell_same _ _ 4 _ _ (.slice none 0 0) hb1
  exact ⟨rfl, ⟨hb2⟩, ((Only.of_grown (Lib.grownBy_setCell w l 3 _))).trans (Only.of_grown (Lib.grownBy_setCell _ l 4 _))⟩
end Go.Proofs.Ytjfpanamkkdebaa
namespace Go.Proofs.Ytjfpanamkkdebaa
open Go.RowKit
set_option linter.unusedVariables false
set_option linter.unusedSimpArgs false
/-- Where a pour stands: the device, the page, its bytes; why it stopped (0: it did not). -/
structure Poured where
  d : Dsk
  pg : Nat
  bs : List UInt8
  e : Nat
def pourP (hf ep : Nat) : Nat → Dsk → Nat → List UInt8 → List UInt8 → Poured
  | 0, d, pg, bs, _ => ⟨d, pg, bs, 0⟩
  | f + 1, d, pg, bs, b =>
    if b.length = 0 then ⟨d, pg, bs, 0⟩
    else
      let n := min b.length (113 - bs.length)
      let bs2 := bs ++ b.take n
      let d2 := d.put (d.place hf pg : Nat) ep pg bs2
      let e2 := d.putE (d.place hf pg : Nat) ep pg bs2
      if e2 ≠ 0 then ⟨d2, pg, bs2, e2⟩
      else if bs2.length = 113 then pourP hf ep f d2 (pg + 1) [] (b.drop n)
      else pourP hf ep f d2 pg bs2 (b.drop n)
theorem pourP_nil (hf ep f : Nat) (d : Dsk) (pg : Nat) (bs b : List UInt8) (h : b.length = 0) : pourP hf ep f d pg bs b = ⟨d, pg, bs, 0⟩ := by
  cases f with
  | zero => rfl
  | succ f => unfold pourP; rw [if_pos h]
theorem pourP_fuel (hf ep : Nat) : ∀ (f : Nat) (d : Dsk) (pg : Nat) (bs b : List UInt8), bs.length < 113 → b.length ≤ f → pourP hf ep f d pg bs b = pourP hf ep b.length d pg bs b := by
  intro f
  induction f using Nat.strongRecOn with
  | _ f ih =>
    intro d pg bs b hl hb
    cases f with
    | zero => rw [show b.length = 0 by omega]
    | succ f =>
      by_cases h0 : b.length = 0
      · rw [pourP_nil _ _ _ _ _ _ _ h0, pourP_nil _ _ _ _ _ _ _ h0]
      · obtain ⟨q, hq⟩ : ∃ q, b.length = q + 1 := ⟨b.length - 1, by omega⟩
        rw [hq]
        unfold pourP
        rw [if_neg h0, if_neg h0]
        have hdl : (b.drop (min b.length (113 - bs.length))).length ≤ q := by rw [List.length_drop]; omega
        have h113 : (bs ++ b.take (min b.length (113 - bs.length))).length ≤ 113 := by rw [List.length_append, List.length_take]; omega
        dsimp only
        split
        · rfl
        · split
          · rw [ih f (by omega) _ _ [] _ (by decide) (by omega)]
            rcases Nat.lt_or_ge q (f + 1) with hlt | hge
            · rw [ih q (by omega) _ _ [] _ (by decide) hdl]
            · omega
          · rename_i hne
            rw [ih f (by omega) _ _ _ _ (by omega) (by omega), ih q (by omega) _ _ _ _ (by omega) hdl]
theorem pourP_step (hf ep : Nat) (d : Dsk) (pg : Nat) (bs b : List UInt8) (hl : bs.length < 113) (h0 : 0 < b.length) (n : Nat) (hn : n = min b.length (113 - bs.length)) :
    pourP hf ep b.length d pg bs b =
      if d.putE (d.place hf pg : Nat) ep pg (bs ++ b.take n) ≠ 0 then ⟨d.put (d.place hf pg : Nat) ep pg (bs ++ b.take n), pg, bs ++ b.take n, d.putE (d.place hf pg : Nat) ep pg (bs ++ b.take n)⟩
      else if (bs ++ b.take n).length = 113 then pourP hf ep (b.drop n).length (d.put (d.place hf pg : Nat) ep pg (bs ++ b.take n)) (pg + 1) [] (b.drop n)
      else pourP hf ep (b.drop n).length (d.put (d.place hf pg : Nat) ep pg (bs ++ b.take n)) pg (bs ++ b.take n) (b.drop n) := by
  subst hn
  obtain ⟨q, hq⟩ : ∃ q, b.length = q + 1 := ⟨b.length - 1, by omega⟩
  have hdl : (b.drop (min b.length (113 - bs.length))).length ≤ q := by rw [List.length_drop]; omega
  have h113 : (bs ++ b.take (min b.length (113 - bs.length))).length ≤ 113 := by rw [List.length_append, List.length_take]; omega
  have hu : pourP hf ep b.length d pg bs b = pourP hf ep (q + 1) d pg bs b := by rw [hq]
  rw [hu]
  conv => lhs; unfold pourP
  rw [if_neg (by omega)]
  dsimp only
  split
  · rfl
  · split
    · exact pourP_fuel hf ep q _ _ [] _ (by decide) hdl
    · exact pourP_fuel hf ep q _ _ _ _ (by omega) hdl
/-- A log, with its page's bytes and its device. -/
structure LgAt (w : World) (l hf ep sl pg : Nat) (bs : List UInt8) (g k m c : Nat) (d : Dsk) (sv rv : Value) (su : Nat) : Prop where
  cells : ∃ bv, LgC w l hf ep sl pg bv g sv rv su ∧ OB w 0 bv bs
  dk : DkAt w g k m c d
  lg : l ≠ g
  lk : l ≠ k
  lm : l ≠ m
theorem LgAt.lt {w : World} {l hf ep sl pg g k m c su : Nat} {bs : List UInt8} {d : Dsk} {sv rv : Value} (h : LgAt w l hf ep sl pg bs g k m c d sv rv su) : l < w.heap.size := by
  obtain ⟨bv, hc, _⟩ := h.cells
  exact blk_lt hc.blk
theorem own_only {w : World} {base : Nat} {e : TypeId} {size n : Nat} {v : Value} {xs : List Value} {w' : World} {S : List Nat} (h : w.ownsRow base e size v n xs) (hg : Only w w' S) (hr : ∀ k, v.ownBlock = some k → k ∉ S) : w'.ownsRow base e size v n xs := by
  refine ⟨h.1, ?_⟩
  rcases h.2 with h0 | ⟨g, cap, cur, rfl, hb, hh, r⟩
  · exact .inl h0
  · exact .inr ⟨g, cap, cur, rfl, hb, (hg.block g (blk_lt hh) (hr g rfl)).trans hh, r⟩
theorem add_blk (a : Addr) (k : Nat) : (a.add k).block = a.block := by
  unfold Addr.add; split <;> rfl
theorem RB.only {w w' : World} {A : Option Addr} {bs : List UInt8} {S : List Nat} (h : RB w A bs) (ho : Only w w' S) (hA : ∀ a, A = some a → bs ≠ [] → a.block ∉ S) : RB w' A bs := by
  intro k v hk
  obtain ⟨a, e, hc⟩ := h k v hk
  refine ⟨a, e, ?_⟩
  have hb : (a.add k).block = a.block := by unfold Addr.add; split <;> rfl
  have hlt := World.block_lt_of_cell? _ _ hc
  rw [hb] at hlt
  have hne : bs ≠ [] := by rintro rfl; simp at hk
  rw [World.cell?_of_block (w := w) (by rw [hb]; exact ho.block _ hlt (hA a e hne))]
  exact hc
set_option maxHeartbeats 800000 in
/-- The library's Clone of a row of bytes, nil too. -/
theorem bclone_all (A : Option Addr) (c : Nat) (bs : List UInt8) (w : World) (hm : bs.length ≤ 4096) (hA : A = none → c = 0) (hr : RB w A bs) :
    Calls Try.prog 40 #[.slice A bs.length c] w fun e w' => ∃ v, e = .returned v ∧ OB w' w.heap.size v bs ∧ Below w.heap.size w w' := by
  cases A with
  | none =>
    have h0 : bs = [] := by
      cases bs with
      | nil => rfl
      | cons b bs => obtain ⟨a, ha, _⟩ := hr.at (k := 0) (by simp); cases ha
    subst h0
    have kn := fun (l c l' c' : Nat) (w : World) => Lib.run_eql_slice_nil (P := Try.prog) w 29 5 none l c l' c' Try.underlying29
    go_enter Try.func40, Try.ntmps40
    go_wp2
    go_ret
    exact ⟨_, rfl, World.ownsRow_nil _ _ _ _, Below.refl _ _⟩
  | some a => exact bclone_any a c bs w hm hr
set_option maxRecDepth 100000 in
set_option maxHeartbeats 3200000 in
theorem pour_any (l hf ep sl pg : Nat) (bs : List UInt8) (g k m c : Nat) (d : Dsk) (sv rv : Value) (su : Nat) (A : Option Addr) (cb : Nat) (b : List UInt8) (w : World) (h : LgAt w l hf ep sl pg bs g k m c d sv rv su)
    (hhf : hf ≤ 1) (hep : ep < 4294967296) (hl : bs.length < 113) (hpg : pg * 113 + bs.length + b.length ≤ 400000) (hr : RB w A b) (hA : A = none → cb = 0) (hcb : b.length ≤ cb) (hAn : ∀ a, A = some a → b ≠ [] → a.block ∉ [l, g, m]) :
    Calls Try.prog 51 #[.pointer (some ⟨l, 0, none⟩), .slice A b.length cb] w fun e w' =>
      e = .returned (.int .i64 (pourP hf ep b.length d pg bs b).e) ∧ LgAt w' l hf ep sl (pourP hf ep b.length d pg bs b).pg (pourP hf ep b.length d pg bs b).bs g k m c (pourP hf ep b.length d pg bs b).d sv rv su ∧ Only w w' [l, g, m] := by
  obtain ⟨P, hP⟩ : ∃ P, pourP hf ep b.length d pg bs b = P := ⟨_, rfl⟩
  rw [hP]
  have HP := Lib.hid hP
  have HH := Lib.hid h
  have HR := Lib.hid hr
  clear hP h hr
  go_enter Try.func51, Try.ntmps51
  go_wp2_with fail
  go_loopg [1] b.length (fun r s1 wr => ∃ (d2 : Dsk) (pg2 : Nat) (bs2 b2 : List UInt8) (A2 : Option Addr) (c2 : Nat), b2.length = r ∧ s1 = .slice A2 b2.length c2 ∧ LgAt wr l hf ep sl pg2 bs2 g k m c d2 sv rv su ∧ bs2.length < 113 ∧ pg2 * 113 + bs2.length + b2.length ≤ 400000 ∧ RB wr A2 b2 ∧ (A2 = none → c2 = 0) ∧ b2.length ≤ c2 ∧ (∀ a, A2 = some a → b2 ≠ [] → a.block ∉ [l, g, m]) ∧ pourP hf ep b2.length d2 pg2 bs2 b2 = P ∧ Only w wr [l, g, m])
  case atStart => exact ⟨d, pg, bs, b, A, cb, rfl, rfl, HH.out, hl, hpg, HR.out, hA, hcb, hAn, HP.out, Only.refl _ _⟩
  case round =>
    obtain ⟨d2, pg2, bs2, b2, A2, c2, rfl, rfl, hL, hl2, hp2, hr2, hA2, hc2, hn2, hP2, ho2⟩ := hrel
    by_cases hb0 : b2.length = 0
    · have HL2 := Lib.hid hL
      rw [pourP_nil _ _ _ _ _ _ _ hb0] at hP2
      have HP2 := Lib.hid hP2
      have HO2 := Lib.hid ho2
      clear hL hP2 ho2 hr2
      have hb1 : decide ((b2.length : Int) > 0) = false := decide_eq_false (by omega)
      go_wp2_with fail
      go_ret
      rw [← HP2.out]
      exact ⟨rfl, HL2.out, HO2.out⟩
    · have hb1 : decide ((b2.length : Int) > 0) = true := decide_eq_true (by omega)
      obtain ⟨bv, hLc, hown⟩ := hL.cells
      obtain ⟨A3, c3, rfl, hlc3, hA3⟩ := OB.form hown
      have HLc := Lib.hid hLc.blk
      have HL2 := Lib.hid hL
      have HOw := Lib.hid hown
      have HO2 := Lib.hid ho2
      have HP2 := Lib.hid hP2
      have HR2 := Lib.hid hr2
      have k4 : wr.cell? ⟨l, 4, none⟩ = some (.slice A3 bs2.length c3) := blk_cell hLc.blk
      clear hL hLc hown ho2 hP2 hr2
      obtain ⟨n, hn⟩ : ∃ n, min b2.length (113 - bs2.length) = n := ⟨_, rfl⟩
      have hnI : min (b2.length : Int) (113 - (bs2.length : Int)) = (n : Int) := by omega
      have HN := Lib.hid hn
      clear hn
      have HML : Hid (maxLen = 9223372036854775807) := rfl
      have hn1 : n ≤ b2.length := by have := HN.out; omega
      have hn2 : n ≤ c2 := by omega
      obtain ⟨a2, rfl⟩ : ∃ a, A2 = some a := by
        obtain ⟨a, ha, _⟩ := HR2.out.at (k := 0) (by omega)
        exact ⟨a, ha⟩
      have HC := Lib.hid (bclone_all A3 c3 bs2 wr.drew (by omega) hA3 (RB.drew (RB.of_own HOw.out)))
      go_wp2_with fail
      refine wp_region_any (by kernel_rfl) ?_
      change wpAny _ _ _ _ _ _ _ (World.drew _)
      replace k4 : wr.drew.cell? ⟨l, 4, none⟩ = some (.slice A3 bs2.length c3) := k4
      have HDr : Hid (Below wr.heap.size wr wr.drew) := (Below.refl _ _).drew
      have HLd : Hid (wr.drew.heap[l]? = _) := HLc.out
      have HLl : Hid (l < wr.drew.heap.size) := blk_lt HLc.out
      generalize World.drew wr = wD at *
      refine wpAny_take (i := 0) (v := ?_) rfl (by kernel_rfl) (by kernel_rfl) (by kernel_rfl) (fun _ _ _ h => h) (Or.inl ⟨by rfl, ?_⟩) ?_; rotate_left; (intro w; go_simp); (try with_reducible rfl)
      simp only [Act.put, List.getElem_toArray, List.getElem_cons_succ, List.getElem_cons_zero, List.setIfInBounds_toArray, List.set_cons_zero, List.set_cons_succ]
      refine wpAny_take (i := 1) (v := ?_) rfl (by kernel_rfl) (by kernel_rfl) (by kernel_rfl) (fun _ _ _ h => h) (Or.inl ⟨by rfl, ?_⟩) ?_; rotate_left; (intro w; go_simp); (try with_reducible rfl)
      simp only [Act.put, List.getElem_toArray, List.getElem_cons_succ, List.getElem_cons_zero, List.setIfInBounds_toArray, List.set_cons_zero, List.set_cons_succ]
      refine wpAny_take (i := 2) (v := ?_) rfl (by kernel_rfl) (by kernel_rfl) (by kernel_rfl) (fun _ _ _ h => h) (Or.inl ⟨by rfl, ?_⟩) ?_; rotate_left; (intro w; go_simp); (try with_reducible rfl)
      simp only [Act.put, List.getElem_toArray, List.getElem_cons_succ, List.getElem_cons_zero, List.setIfInBounds_toArray, List.set_cons_zero, List.set_cons_succ]
      refine wpAny_take (i := 3) (v := ?_) rfl (by kernel_rfl) (by kernel_rfl) (by kernel_rfl) (fun _ _ _ h => h) (Or.inl ⟨by rfl, ?_⟩) ?_; rotate_left; (intro w; go_simp); (try with_reducible rfl)
      simp only [Act.put, List.getElem_toArray, List.getElem_cons_succ, List.getElem_cons_zero, List.setIfInBounds_toArray, List.set_cons_zero, List.set_cons_succ]
      refine wpAny_take (i := 4) (v := ?_) rfl (by kernel_rfl) (by kernel_rfl) (by kernel_rfl) (fun _ _ _ h => h) (Or.inl ⟨by rfl, ?_⟩) ?_; rotate_left; (intro w; go_simp); (try with_reducible rfl)
      simp only [Act.put, List.getElem_toArray, List.getElem_cons_succ, List.getElem_cons_zero, List.setIfInBounds_toArray, List.set_cons_zero, List.set_cons_succ]
      refine wpAny_take (i := 7) (v := ?_) rfl (by kernel_rfl) (by kernel_rfl) (by kernel_rfl) (fun _ _ _ h => h) (Or.inl ⟨by rfl, ?_⟩) ?_; rotate_left; (intro w; go_simp); (try with_reducible rfl)
      simp only [Act.put, List.getElem_toArray, List.getElem_cons_succ, List.getElem_cons_zero, List.setIfInBounds_toArray, List.set_cons_zero, List.set_cons_succ]
      refine wpAny_take (i := 8) (v := ?_) rfl (by kernel_rfl) (by kernel_rfl) (by kernel_rfl) (fun _ _ _ h => h) (Or.inl ⟨by rfl, ?_⟩) ?_; rotate_left; (intro w; go_simp); (try with_reducible rfl)
      simp only [Act.put, List.getElem_toArray, List.getElem_cons_succ, List.getElem_cons_zero, List.setIfInBounds_toArray, List.set_cons_zero, List.set_cons_succ]
      refine wpAny_take (i := 9) (v := .slice (some a2) n c2) rfl (by kernel_rfl) (by kernel_rfl) (by kernel_rfl) (fun _ _ _ h => h) (Or.inl ⟨by rfl, (by intro w; go_simp <;> (intro h9; exfalso; omega))⟩) ?_
      simp only [Act.put, List.getElem_toArray, List.getElem_cons_succ, List.getElem_cons_zero, List.setIfInBounds_toArray, List.set_cons_zero, List.set_cons_succ]
      refine wpAny_ready (rs := [5]) (by kernel_rfl) (by simp) ?_
      refine AllReady.cons rfl (fun K hK => ?_) AllReady.nil
      go_simp
      refine hK _ _ ?_
      clear hK K
      refine wpAny_ready (rs := [6]) (by kernel_rfl) (by simp) ?_
      refine AllReady.cons rfl (fun K hK => ?_) AllReady.nil
      go_simp
      go_at_call 40
      refine HC.out.mono ?_
      rintro e1 w1 ⟨v1, rfl, ho1, hb1'⟩
      have HO1 := Lib.hid ho1
      have HB1 := Lib.hid hb1'
      clear ho1 hb1'
      try go_simp
      refine hK _ _ ?_
      clear hK K
      refine wpAny_ready (rs := [10]) (by kernel_rfl) (by simp) ?_
      refine AllReady.cons rfl (fun K hK => ?_) AllReady.nil
      refine wp_app _ _ _ 29 rfl wD.heap.size 5 (.int .u8 0) 1 1 Try.underlying29 info_u8 rfl (by decide) v1 bs2.length (bs2.map vb) rfl HO1.out (some a2) n c2 ((b2.take n).map vb) rfl (by rw [List.length_map, List.length_take]; omega) (rb_take ((HR2.out.below HDr.out).below HB1.out) n) (vbs_one _) (fun e => by cases e) (by rw [HML.out]; omega) (by omega) HB1.out.size ?_
      intro v3 w3 hown3 hg3 _
      have ho3 : OB w3 wD.heap.size v3 (bs2 ++ b2.take n) := OB.mk hown3 (by rw [List.length_append, List.length_take]; omega) (by rw [List.map_append])
      obtain ⟨A4, c4, rfl, -, hA4⟩ := OB.form ho3
      have hl3 : w3.heap[l]? = wD.heap[l]? := (hg3.block l (Nat.lt_of_lt_of_le HLl.out HB1.out.size) (fun e => by have := World.ownsRow.lt HO1.out l e.symm; have := HLl.out; omega)).trans (HB1.out.block l HLl.out)
      have hb3 := hl3.trans HLd.out
      have HO3 := Lib.hid ho3
      have k43 : w3.cell? ⟨l, 4, none⟩ = some (.slice A3 bs2.length c3) := blk_cell hb3
      have f43 : w3.frozen? ⟨l, 4, none⟩ = false := blk_free hb3
      have HB3 := Lib.hid hb3
      clear ho3 hown3 hl3 hb3
      refine hK _ _ ?_
      clear hK K
      refine wpAny_take (i := 11) (v := ?_) rfl (by kernel_rfl) (by kernel_rfl) (by kernel_rfl) (fun _ _ _ h => h) (Or.inl ⟨by rfl, ?_⟩) ?_; rotate_left; (intro w; go_simp); (try with_reducible rfl)
      simp only [Act.put, List.getElem_toArray, List.getElem_cons_succ, List.getElem_cons_zero, List.setIfInBounds_toArray, List.set_cons_zero, List.set_cons_succ]
      refine wpAny_take (i := 12) (v := ?_) rfl (by kernel_rfl) (by kernel_rfl) (by kernel_rfl) (fun _ _ _ h => h) (Or.inl ⟨by rfl, ?_⟩) ?_; rotate_left; (intro w; go_simp); (try with_reducible rfl)
      simp only [Act.put, List.getElem_toArray, List.getElem_cons_succ, List.getElem_cons_zero, List.setIfInBounds_toArray, List.set_cons_zero, List.set_cons_succ]
      refine wpAny_take (i := 13) (v := ?_) rfl (by kernel_rfl) (by kernel_rfl) (by kernel_rfl) (fun _ _ _ h => h) (Or.inl ⟨by rfl, ?_⟩) ?_; rotate_left; (intro w; go_simp); (try with_reducible rfl)
      simp only [Act.put, List.getElem_toArray, List.getElem_cons_succ, List.getElem_cons_zero, List.setIfInBounds_toArray, List.set_cons_zero, List.set_cons_succ]
      refine wpAny_ready (rs := [14]) (by kernel_rfl) (by simp) ?_
      refine AllReady.cons rfl (fun K hK => ?_) AllReady.nil
      go_simp
      refine hK _ _ ?_
      clear hK K
      refine wpAny_done (by kernel_rfl) ?_ _
      obtain ⟨bs3, hbs3⟩ : ∃ x, bs2 ++ b2.take n = x := ⟨_, rfl⟩
      have hlen3 : (bs2 ++ b2.take n).length = bs2.length + n := by rw [List.length_append, List.length_take]; omega
      have HBS := Lib.hid hbs3
      have ho4 := HO3.out
      rw [hbs3] at hlen3 ho4
      rw [← hlen3]
      have hbW3 : Below wD.heap.size wD w3 := HB1.out.grown hg3 HB1.out.size (fun k e => (World.ownsRow.lt HO1.out k e).1)
      have hoE : Only wr (w3.setCell ⟨l, 4, none⟩ (.slice A4 bs3.length c4)) [l] := ((Only.of_below HDr.out []).mono (by simp)).trans (((Only.of_below hbW3 []).mono (by simp)).trans (Only.of_grown (Lib.grownBy_setCell w3 l 4 _)))
      have hdE := HL2.out.dk.only hoE (by simpa using HL2.out.lg.symm) (by simpa using HL2.out.lk.symm) (by simpa using HL2.out.lm.symm)
      have hE : (w3.setCell ⟨l, 4, none⟩ (.slice A4 bs3.length c4)).heap[l]? = some (.cells #[.int .i64 hf, .int .i64 ep, .int .i64 sl, .int .i64 pg2, .slice A4 bs3.length c4, .pointer (some ⟨g, 0, none⟩), sv, rv, .int .i64 su] 65 (0, 0)) := heap_setCell_same _ _ 4 _ _ (.slice A4 bs3.length c4) HB3.out
      have howE : OB (w3.setCell ⟨l, 4, none⟩ (.slice A4 bs3.length c4)) wD.heap.size (.slice A4 bs3.length c4) bs3 := ownsRow_setCell_below ho4 (a := ⟨l, 4, none⟩) HLl.out _
      have hrE := RB.only HR2.out hoE (fun a e hne => by have := hn2 a e hne; simp only [List.mem_cons, not_or, List.not_mem_nil, not_false_eq_true, and_true] at this ⊢; exact this.1)
      have HLenN := Lib.hid hlen3
      clear hlen3 ho4 HO3 HB3 HB1 HO1 hbW3 k43 f43 hg3 HLd k4 HC hbs3
      have hDs : wr.heap.size ≤ wD.heap.size := HDr.out.size
      generalize w3.setCell ⟨l, 4, none⟩ (.slice A4 bs3.length c4) = wE at *
      have hnE : n ≤ 113 - bs2.length := by have := HN.out; omega
      have hl3 : bs3.length ≤ 113 := by have := HLenN.out; omega
      have hdED : DkAt wE.drew g k m c d2 := hdE.below (Below.refl _ _).drew
      have HAt := Lib.hid (at_any g k m c d2 hf pg2 wE.drew hdED hhf (by omega))
      have HW := Lib.hid (put_any g k m c d2 (d2.place hf pg2 : Nat) ep pg2 A4 c4 bs3 wE.drew hdED hep (by omega) hl3 (RB.drew (RB.of_own howE)) hA4)
      have HPs := Lib.hid (pourP_step hf ep d2 pg2 bs2 b2 hl2 (by omega) n HN.out.symm)
      rw [HBS.out, HP2.out] at HPs
      have HDl := Lib.hid (show d2.place hf pg2 = d2.place hf pg2 from rfl)
      generalize d2.putE (d2.place hf pg2 : Nat) ep pg2 bs3 = E at *
      generalize d2.put (d2.place hf pg2 : Nat) ep pg2 bs3 = d3 at *
      generalize d2.place hf pg2 = pl at *
      have c0 : wE.drew.cell? ⟨l, 0, none⟩ = some (.int .i64 hf) := blk_cell hE
      have c1 : wE.drew.cell? ⟨l, 1, none⟩ = some (.int .i64 ep) := blk_cell hE
      have c3' : wE.drew.cell? ⟨l, 3, none⟩ = some (.int .i64 pg2) := blk_cell hE
      have c4' : wE.drew.cell? ⟨l, 4, none⟩ = some (.slice A4 bs3.length c4) := blk_cell hE
      have c5 : wE.drew.cell? ⟨l, 5, none⟩ = some (.pointer (some ⟨g, 0, none⟩)) := blk_cell hE
      have hlE := blk_lt hE
      have HE := Lib.hid (⟨hoE, hdE, hE, howE, hrE, hdED⟩ : Only wr wE [l] ∧ _ ∧ _ ∧ _ ∧ _ ∧ _)
      clear hoE hdE hE howE hrE hdED HDl
      go_wp2_with (refine wpList_cut _ rfl (.tmp 34) (some (.tmp 35)) none none 29 rfl 5 _ 1 1 Try.underlying29 info_u8 (some a2) b2.length c2 rfl n b2.length c2 ⟨_, rfl⟩ rfl rfl (by simp) (by omega) (by omega) (by omega) ?_; intro A5 hA5)
      go_region_held3 (fun w' => w'.cell? ⟨l, 0, none⟩ = some (.int .i64 hf) ∧ w'.cell? ⟨l, 1, none⟩ = some (.int .i64 ep) ∧ w'.cell? ⟨l, 3, none⟩ = some (.int .i64 pg2) ∧ w'.cell? ⟨l, 4, none⟩ = some (.slice A4 bs3.length c4) ∧ w'.cell? ⟨l, 5, none⟩ = some (.pointer (some ⟨g, 0, none⟩))) (first | exact ⟨c0, c1, c3', c4', c5⟩ | exact ⟨e0, e1, e3, e4, e5⟩) (first
        | (go_at_call 61; refine HAt.out.mono ?_; rintro e w' ⟨rfl, rfl⟩)
        | (go_at_call 63; refine HW.out.mono ?_; rintro e w' ⟨rfl, hd', ho'⟩; have hE' := (ho'.block l hlE (by have := HL2.out.lg; have := HL2.out.lm; simp; omega)).trans HE.out.2.2.1; have e0 : w'.cell? ⟨l, 0, none⟩ = some (.int .i64 hf) := blk_cell hE'; have e1 : w'.cell? ⟨l, 1, none⟩ = some (.int .i64 ep) := blk_cell hE'; have e3 : w'.cell? ⟨l, 3, none⟩ = some (.int .i64 pg2) := blk_cell hE'; have e4 : w'.cell? ⟨l, 4, none⟩ = some (.slice A4 bs3.length c4) := blk_cell hE'; have e5 : w'.cell? ⟨l, 5, none⟩ = some (.pointer (some ⟨g, 0, none⟩)) := blk_cell hE'))
      obtain ⟨hoE, hdE, hE, howE, hrE, -⟩ := HE.out
      have hlt2 := HL2.out.dk.lt
      have hoU : Only wE w' [g, m] := (Only.of_below (Below.refl wE.heap.size wE).drew [g, m]).trans ho'
      have hoW : OB w' wD.heap.size (.slice A4 bs3.length c4) bs3 := own_only howE hoU (by intro k' hk'; have := World.ownsRow.lt howE k' hk'; simp; omega)
      have hLg : LgAt w' l hf ep sl pg2 bs3 g k m c d3 sv rv su := ⟨⟨_, ⟨hE'⟩, hoW.mono (Nat.zero_le _)⟩, hd', HL2.out.lg, HL2.out.lk, HL2.out.lm⟩
      have hoA : Only w w' [l, g, m] := HO2.out.trans ((hoE.mono (by simp)).trans (hoU.mono (by simp)))
      have hA5b : ∀ a, A5 = some a → a.block = a2.block := by
        intro a ha
        unfold CutAt at hA5
        split at hA5
        · rw [hA5] at ha; injection ha with ha; rw [ha]
        · rw [hA5, Option.map_some] at ha; injection ha with ha; rw [← ha]; exact add_blk _ _
      have hA5n : A5 = none → c2 - n = 0 := by
        intro ha
        unfold CutAt at hA5
        split at hA5 <;> rw [hA5] at ha <;> cases ha
      have hn0 : 0 < n := by have := HN.out; omega
      have hb2n : b2 ≠ [] := by intro e; rw [e] at hb0; exact hb0 rfl
      have hnin := hn2 a2 rfl hb2n
      have hrD : RB w' A5 (b2.drop n) := RB.only (RB.from hrE hA5 hc2) hoU (fun a e hne => by rw [hA5b a e]; simp only [List.mem_cons, not_or, List.not_mem_nil, not_false_eq_true, and_true] at hnin ⊢; exact hnin.2)
      have hninD : ∀ a, A5 = some a → b2.drop n ≠ [] → a.block ∉ [l, g, m] := fun a e _ => by rw [hA5b a e]; exact hnin
      have hdl : (b2.drop n).length = b2.length - n := List.length_drop
      have HLN := HLenN.out
      have HF := Lib.hid (⟨hLg, hoA, hrD, hninD, hdl, hE'⟩ : LgAt w' l hf ep sl pg2 bs3 g k m c d3 sv rv su ∧ Only w w' [l, g, m] ∧ RB w' A5 (b2.drop n) ∧ (∀ a, A5 = some a → b2.drop n ≠ [] → a.block ∉ [l, g, m]) ∧ (b2.drop n).length = b2.length - n ∧ _)
      have HA5n := Lib.hid hA5n
      have k4 := e4
      clear hoE hdE hE howE hrE hoW hLg hoA hA5b hA5 hrD hninD hdl hE' HE HAt HW c0 c1 c3' c4' c5 e0 e1 e3 e4 e5 hd' ho' hoU HLN hA5n
      by_cases hEz : E = 0
      · subst hEz
        by_cases h113 : bs3.length = 113
        · have h113i : ((bs3.length : Int) == 113) = true := by rw [h113]; rfl
          have hT := turn_any l hf ep sl pg2 _ g sv rv su w' ⟨HF.out.2.2.2.2.2⟩ (by omega)
          have HT := Lib.hid hT
          have HPs2 := Lib.hid (show P = pourP hf ep (List.drop n b2).length d3 (pg2 + 1) [] (List.drop n b2) by rw [HPs.out, if_neg (by simp), if_pos h113])
          have H113 := Lib.hid h113
          clear hT HPs
          go_wp2_with (go_at_call 52; refine HT.out.mono ?_; rintro e w4 ⟨rfl, hc4', ho4'⟩)
          obtain ⟨hLg, hoA, hrD, hninD, hdl, -⟩ := HF.out
          have hLN3 := HLenN.out
          rw [← hdl]
          have hdk4 := hLg.dk.only ho4' (by simpa using hLg.lg.symm) (by simpa using hLg.lk.symm) (by simpa using hLg.lm.symm)
          have hrD4 := RB.only hrD ho4' (fun a e hne => by have := hninD a e hne; simp only [List.mem_cons, not_or, List.not_mem_nil, not_false_eq_true, and_true] at this ⊢; exact this.1)
          go_roundg ((b2.drop n).length)
          case measure => omega
          case rel => exact ⟨d3, pg2 + 1, [], b2.drop n, A5, c2 - n, rfl, rfl, ⟨⟨_, hc4', World.ownsRow_nil _ _ _ _⟩, hdk4, hLg.lg, hLg.lk, hLg.lm⟩, by decide, by simp only [List.length_nil]; omega, hrD4, HA5n.out, by omega, hninD, HPs2.out.symm, hoA.trans (ho4'.mono (by simp))⟩
        · have h113i : ((bs3.length : Int) == 113) = false := by rw [beq_eq_false_iff_ne]; omega
          have h113j : ¬ ((bs3.length : Int) = 113) := by omega
          have HPs2 := Lib.hid (show P = pourP hf ep (List.drop n b2).length d3 pg2 bs3 (List.drop n b2) by rw [HPs.out, if_neg (by simp), if_neg h113])
          clear HPs
          go_wp2_with fail
          obtain ⟨hLg, hoA, hrD, hninD, hdl, -⟩ := HF.out
          have hLN3 := HLenN.out
          rw [← hdl]
          go_roundg ((b2.drop n).length)
          case measure => omega
          case rel => exact ⟨d3, pg2, bs3, b2.drop n, A5, c2 - n, rfl, rfl, hLg, by omega, by omega, hrD, HA5n.out, by omega, hninD, HPs2.out.symm, hoA⟩
      · have hE2 : ¬ ((E : Int) = 0) := by omega
        have hE3 : ((E : Int) == 0) = false := by rw [beq_eq_false_iff_ne]; omega
        have HPs2 := Lib.hid (show P = ⟨d3, pg2, bs3, E⟩ by rw [HPs.out, if_pos hEz])
        clear HPs
        go_wp2_with fail
        go_ret
        rw [HPs2.out]
        exact ⟨rfl, HF.out.1, HF.out.2.1⟩
end Go.Proofs.Ytjfpanamkkdebaa
namespace Go.Proofs.Ytjfpanamkkdebaa
open Go.RowKit
set_option linter.unusedVariables false
set_option linter.unusedSimpArgs false
set_option maxHeartbeats 800000 in
/-- The library's Clone of a row of bytes, however long. -/
theorem bclone_wide (A : Option Addr) (c : Nat) (bs : List UInt8) (w : World) (hm : bs.length ≤ 140737488351232) (hA : A = none → c = 0) (hr : RB w A bs) :
    Calls Try.prog 40 #[.slice A bs.length c] w fun e w' => ∃ v, e = .returned v ∧ OB w' w.heap.size v bs ∧ Below w.heap.size w w' := by
  have kn := fun (l c l' c' : Nat) (w : World) => Lib.run_eql_slice_nil (P := Try.prog) w 29 5 A l c l' c' Try.underlying29
  have HML : Hid (maxLen = 9223372036854775807) := rfl
  cases A with
  | none =>
    have h0 : bs = [] := by
      cases bs with
      | nil => rfl
      | cons b bs => obtain ⟨a, ha, _⟩ := hr.at (k := 0) (by simp); cases ha
    subst h0
    go_enter Try.func40, Try.ntmps40
    go_wp2
    go_ret
    exact ⟨_, rfl, World.ownsRow_nil _ _ _ _, Below.refl _ _⟩
  | some a =>
    go_enter Try.func40, Try.ntmps40
    go_wp2_with (at_builtin; refine wpList_app _ rfl _ _ 29 rfl w.heap.size 5 _ 1 1 Try.underlying29 info_u8 rfl (by decide) _ 0 _ rfl (World.ownsRow_lit w _ 0 (Nat.le_refl _) (by decide) rfl) (some a) bs.length c (bs.map vb) rfl (by simp) (hr.below ((Below.refl _ _).alloc (Nat.le_refl _) _)) (vbs_one bs) hA ?c6 ?c7 ?c8 ?_)
    case c6 => rw [HML.out]; omega
    case c7 => omega
    case c8 => simp
    intro v w3 hown3 hg3 _
    go_wp2
    go_ret
    exact ⟨_, rfl, by simpa [OB] using hown3, ((Below.refl _ _).alloc (Nat.le_refl _) _).grown hg3 (by simp) (by intro k hk; cases hk; exact Nat.le_refl _)⟩
/-- A record's bytes on the pages. -/
def framedP (b : List UInt8) : List UInt8 := numBytes (sealed b).length ++ sealed b
theorem framedP_length (b : List UInt8) : (framedP b).length = need (b.length + 4) + b.length + 5 := by
  unfold framedP
  rw [List.length_append, numBytes_length, sealed_length, Nat.add_comm 4]
  omega
theorem framedP_le (b : List UInt8) (h : b.length ≤ 1073741824) : (framedP b).length ≤ b.length + 14 := by
  rw [framedP_length]
  have := need_le (b.length + 4)
  omega
set_option maxHeartbeats 1600000 in
theorem framed_any (A : Option Addr) (c : Nat) (b : List UInt8) (w : World) (hm : b.length ≤ 1073741824) (hA : A = none → c = 0) (hr : RB w A b) :
    Calls Try.prog 48 #[.slice A b.length c] w fun e w' => ∃ v, e = .returned v ∧ OB w' w.heap.size v (framedP b) ∧ Below w.heap.size w w' := by
  have HS := Lib.hid (seal_any A c b w (by omega) hA hr)
  have hsl := sealed_length b
  have hfl := framedP_le b hm
  have HF : Hid (framedP b = numBytes (sealed b).length ++ sealed b) := rfl
  generalize sealed b = S at *
  generalize framedP b = F at *
  have hnn : numNat (S.length : Int) = S.length := by unfold numNat; omega
  have HN := Lib.hid (fun W => num_any none 0 [] (S.length : Int) W (by simp) (by omega) (fun _ => rfl) (by simp) (Lies.nil _ _))
  rw [hnn] at HN
  have hfl2 : (numBytes S.length).length + S.length = F.length := by rw [HF.out, List.length_append]
  have HML : Hid (maxLen = 9223372036854775807) := rfl
  generalize numBytes S.length = M at *
  have HSL := Lib.hid hsl
  have hfs : M.length + S.length ≤ 2000000000 := by omega
  have HFL := Lib.hid hfl2
  clear hr hnn hsl hfl hfl2
  go_enter Try.func48, Try.ntmps48
  go_wp2_with fail
  refine HS.out.mono ?_
  rintro e w1 ⟨v, rfl, ho, hb⟩
  obtain ⟨A2, c2, rfl, hlc, hA2⟩ := OB.form ho
  have HO := Lib.hid ho
  have HB := Lib.hid hb
  clear ho hb
  go_wp2_with fail
  refine (HN.out _).mono ?_
  rintro e w2 ⟨v2, rfl, ho2, hb2⟩
  simp only [List.nil_append] at ho2
  have hO1 := HO.out.below hb2
  have HO2 := Lib.hid ho2
  have HB2 := Lib.hid hb2
  have HO1 := Lib.hid hO1
  clear ho2 hb2 hO1
  go_wp2_with (at_builtin; refine wpList_app _ rfl _ _ 29 rfl w1.heap.size 5 _ 1 1 Try.underlying29 info_u8 rfl (by decide) v2 M.length (M.map vb) rfl HO2.out A2 S.length c2 (S.map vb) rfl (by simp) (RB.of_own HO1.out) (vbs_one S) hA2 ?c6 ?c7 ?c8 ?_)
  case c6 => rw [HML.out]; omega
  case c7 => omega
  case c8 => exact HB2.out.size
  intro v w3 hown3 hg3 _
  go_wp2
  go_ret
  refine ⟨_, rfl, ?_, ((HB.out.trans (HB2.out.mono HB.out.size)).grown hg3 (Nat.le_trans HB.out.size HB2.out.size) (by intro k hk; exact Nat.le_trans HB.out.size (World.ownsRow.lt HO2.out k hk).1))⟩
  rw [HF.out]
  exact (OB.mk hown3 (by simp) (by simp)).mono HB.out.size
/-- The greatest epoch that pages have, or one that was given. -/
def Dsk.topE (d : Dsk) (hf : Nat) : Nat → Nat → Nat
  | 0, ep => ep
  | n + 1, ep => max (d.topE hf n ep) (d.sheet (d.place hf n : Nat)).epoch
def Dsk.nextE (d : Dsk) (hf ep : Nat) : Nat := if d.dead then 9 else if 2147483648 ≤ d.topE hf d.room ep then 11 else 0
theorem lookP_epoch (b : List UInt8) : (lookP b).epoch < 4294967296 := acc4 _ (by rw [List.length_take]; omega)
theorem Dsk.sheet_epoch (d : Dsk) (i : Int) : (d.sheet i).epoch < 4294967296 := by
  unfold Dsk.sheet
  split
  · exact lookP_epoch _
  · decide
theorem Dsk.topE_lt (d : Dsk) (hf ep : Nat) (h : ep < 4294967296) : ∀ n, d.topE hf n ep < 4294967296
  | 0 => h
  | n + 1 => by
    have h1 := d.topE_lt hf ep h n
    have h2 := d.sheet_epoch (d.place hf n : Nat)
    unfold Dsk.topE
    omega
theorem Dsk.place_lt (d : Dsk) (hf i : Nat) (h : 8 ≤ d.kept.length) (h1 : hf ≤ 1) (hi : i < d.room) : d.place hf i < d.kept.length := by
  unfold Dsk.place Dsk.room at *
  have : hf * ((d.kept.length - 2) / 2) ≤ 1 * ((d.kept.length - 2) / 2) := Nat.mul_le_mul_right _ h1
  omega
theorem Dsk.readE_in (d : Dsk) (i : Nat) (h : i < d.kept.length) : d.readE i = if d.dead then 9 else 0 := by
  have ha : d.askE i = 0 := by unfold Dsk.askE; exact if_pos (by omega)
  unfold Dsk.readE
  rw [ha, if_neg (by decide)]
set_option maxHeartbeats 3200000 in
theorem next_any (g k m c : Nat) (d : Dsk) (hf ep : Nat) (w : World) (h : DkAt w g k m c d) (hn : 8 ≤ d.kept.length) (h1 : hf ≤ 1) (hep : ep < 4294967296) :
    Calls Try.prog 62 #[.pointer (some ⟨g, 0, none⟩), .int .i64 hf, .int .i64 ep] w fun e w' =>
      e = .returned (.tuple #[.int .i64 (if d.nextE hf ep = 0 then d.topE hf d.room ep + 1 else 0 : Nat), .int .i64 (d.nextE hf ep)]) ∧ Below w.heap.size w w' := by
  have HR := Lib.hid (room_any g k m c d w h)
  have HA := Lib.hid (fun i (hi : i ≤ 65536) W (hb : Below w.heap.size w W) => at_any g k m c d hf i W (h.below hb) h1 hi)
  have HS := Lib.hid (fun (i : Int) W (hb : Below w.heap.size w W) => see_any g k m c d i W (h.below hb))
  have hrl := d.room_le h.ok.most
  have hr0 : 0 < d.room := by unfold Dsk.room; omega
  obtain ⟨T, hT⟩ : ∃ T : Nat → Nat, (fun n => d.topE hf n ep) = T := ⟨_, rfl⟩
  have hT0 : T 0 = ep := by rw [← hT]; rfl
  have hTs : ∀ n, T (n + 1) = max (T n) (d.sheet (d.place hf n : Nat)).epoch := by intro n; rw [← hT]; rfl
  have hTl : ∀ n, T n < 4294967296 := by intro n; rw [← hT]; exact d.topE_lt hf ep hep n
  have hNE : d.nextE hf ep = if d.dead then 9 else if 2147483648 ≤ T d.room then 11 else 0 := by rw [← hT]; rfl
  rw [show d.topE hf d.room ep = T d.room by rw [← hT]]
  have hRE : ∀ i, i < d.room → d.readE (d.place hf i : Nat) = if d.dead then 9 else 0 := fun i hi => d.readE_in _ (d.place_lt hf i hn h1 hi)
  have HTs := Lib.hid (⟨hT0, hTs, hTl, hRE⟩ : T 0 = ep ∧ (∀ n, T (n + 1) = max (T n) (d.sheet (d.place hf n : Nat)).epoch) ∧ (∀ n, T n < 4294967296) ∧ _)
  have HNE := Lib.hid hNE
  clear hT0 hTs hTl hT h hn hRE hNE
  obtain ⟨R, hR⟩ : ∃ R, d.room = R := ⟨_, rfl⟩
  rw [hR] at HR HTs HNE hrl hr0 ⊢
  clear hR
  generalize d.nextE hf ep = NE at *
  obtain ⟨X, hX⟩ : ∃ X : Nat, (if NE = 0 then T R + 1 else 0) = X := ⟨_, rfl⟩
  rw [hX]
  have HX := Lib.hid hX
  clear hX
  go_enter Try.func62, Try.ntmps62
  go_wp2_with (go_at_call 50; refine HR.out.mono ?_; rintro e w' ⟨rfl, rfl⟩)
  go_loopg [2, 13] R (fun r s2 s13 wr => ∃ j : Nat, j + r = R ∧ s13 = .int .i64 j ∧ s2 = .int .i64 (T j) ∧ Below w.heap.size w wr ∧ (0 < j → d.dead = false))
  case atStart => exact ⟨0, by omega, rfl, by rw [HTs.out.1], Below.refl _ _, fun h => by omega⟩
  case round =>
    obtain ⟨j, hj, rfl, rfl, hb, hdd⟩ := hrel
    by_cases hjl : j < R
    · have hj1 : decide ((j : Int) < (R : Int)) = true := decide_eq_true (by omega)
      have hj2 : (j : Int) < (R : Int) := by omega
      have HA1 := Lib.hid (HA.out j (by omega) wr hb)
      have HS1 := Lib.hid (HS.out (d.place hf j : Nat) wr hb)
      have hre := HTs.out.2.2.2 j hjl
      have hTs := HTs.out.2.1 j
      have hTl := HTs.out.2.2.1 j
      rw [hre] at HS1
      generalize d.place hf j = pl at *
      have hse := d.sheet_epoch pl
      obtain ⟨S, hS⟩ : ∃ S, d.sheet pl = S := ⟨_, rfl⟩
      rw [hS] at HS1 hTs hse
      clear hS hre
      obtain ⟨p1, p2, bs, wh, tl⟩ := S
      unfold shv at HS1
      dsimp only at HS1 hTs hse
      have HTT := Lib.hid hTs
      have HB := Lib.hid hb
      clear hTs hb HA HS
      cases hdead : d.dead with
      | true =>
        rw [hdead] at HNE HS1
        simp only [if_true] at HNE HS1
        have HNE2 := Lib.hid HNE.out
        clear HNE
        go_wp2_with (first
          | (go_at_call 61; refine HA1.out.mono ?_; rintro e w' ⟨rfl, rfl⟩)
          | (go_at_call 53; refine HS1.out.mono ?_; rintro e w' ⟨v, rfl, ho, hb⟩; obtain ⟨A2, c2, rfl, -⟩ := OB.form ho))
        go_returns
        have e9 : NE = 9 := HNE2.out
        have eX : X = 0 := by rw [← HX.out, e9]; rfl
        rw [e9, eX]
        exact ⟨rfl, (HB.out.trans (hb.mono HB.out.size)).alloc (Nat.le_trans HB.out.size hb.size) _⟩
      | false =>
        rw [hdead] at HS1
        simp only [Bool.false_eq_true, if_false] at HS1
        go_wp2_with (first
          | (go_at_call 61; refine HA1.out.mono ?_; rintro e w' ⟨rfl, rfl⟩)
          | (go_at_call 53; refine HS1.out.mono ?_; rintro e w' ⟨v, rfl, ho, hb⟩; obtain ⟨A2, c2, rfl, -⟩ := OB.form ho))
        go_roundg (R - (j + 1))
        case measure => omega
        case rel => exact ⟨j + 1, by omega, by go_num, by rw [HTT.out]; congr 1; omega, (HB.out.trans (hb.mono HB.out.size)).alloc (Nat.le_trans HB.out.size hb.size) _, fun _ => hdead⟩
    · obtain rfl : j = R := by omega
      have hj1 : decide ((j : Int) < (j : Int)) = false := decide_eq_false (by omega)
      have hdf := hdd hr0
      have hTl := HTs.out.2.2.1 j
      by_cases hbig : 2147483648 ≤ T j
      · have hb1 : decide ((T j : Int) ≥ 2147483648) = true := decide_eq_true (by omega)
        have hb2 : decide ((2147483648 : Int) ≤ (T j : Int)) = true := decide_eq_true (by omega)
        have HN2 := Lib.hid (show NE = 11 by rw [HNE.out, hdf, if_neg (by simp), if_pos hbig])
        clear HNE
        go_wp2_with fail
        go_returns
        have e9 : NE = 11 := HN2.out
        have eX : X = 0 := by rw [← HX.out, e9]; rfl
        rw [e9, eX]
        exact ⟨rfl, hb⟩
      · have hb1 : decide ((T j : Int) ≥ 2147483648) = false := decide_eq_false (by omega)
        have hb2 : decide ((2147483648 : Int) ≤ (T j : Int)) = false := decide_eq_false (by omega)
        have HN2 := Lib.hid (show NE = 0 by rw [HNE.out, hdf, if_neg (by simp), if_neg hbig])
        clear HNE
        go_wp2_with fail
        go_returns
        have e9 : NE = 0 := HN2.out
        have eX : X = T j + 1 := by rw [← HX.out, e9]; rfl
        rw [e9, eX]
        exact ⟨rfl, hb⟩
end Go.Proofs.Ytjfpanamkkdebaa
namespace Go.Proofs.Ytjfpanamkkdebaa
open Go.RowKit
set_option linter.unusedVariables false
set_option linter.unusedSimpArgs false
theorem own_apart {w : World} {base : Nat} {e : TypeId} {size n : Nat} {v : Value} {xs : List Value} (h : w.ownsRow base e size v n xs) {k : Nat} {o : Obj} (hk : w.heap[k]? = some o) (ho : ∀ cs f, o ≠ .cells cs e f) : ∀ j, v.ownBlock = some j → j ≠ k := by
  rintro j hj rfl
  rcases h.2 with ⟨rfl, _⟩ | ⟨g, cap, cur, rfl, _, hh, _⟩
  · cases hj
  · injection hj with hj
    subst hj
    have hh2 : w.heap[g]? = some (.cells cur e (0, 0)) := hh
    have hk2 : w.heap[g]? = some o := hk
    rw [hh2] at hk2
    injection hk2 with hk2
    exact ho _ _ hk2.symm
theorem DkAt.objs {w : World} {g k m c : Nat} {d : Dsk} (h : DkAt w g k m c d) : (∃ cs, w.heap[g]? = some (.cells cs 81 (0, 0))) ∧ (∃ cs, w.heap[k]? = some (.cells cs 9 (0, 0))) ∧ (∃ es cl, w.heap[m]? = some (.map es cl)) := by
  refine ⟨⟨_, h.blk⟩, ?_, ?_⟩
  · have hr := h.row
    rcases hr.2 with ⟨e, _⟩ | ⟨g', cap, cur, e, _, hh, _⟩
    · cases e
    · injection e with e; injection e with e; injection e with e
      subst e
      exact ⟨_, hh⟩
  · obtain ⟨D, ⟨es, clock, h1, r⟩, h2⟩ := h.map
    exact ⟨es, clock, h1⟩
/-- A block that is none of a device's. -/
theorem DkAt.apart {w : World} {g k m c : Nat} {d : Dsk} (h : DkAt w g k m c d) {j : Nat} {cs : Array Value} {e : TypeId} {f : Nat × Nat} (hj : w.heap[j]? = some (.cells cs e f)) (h1 : e ≠ 81) (h2 : e ≠ 9) : j ∉ [g, k, m] := by
  obtain ⟨⟨c1, k1⟩, ⟨c2, k2⟩, ⟨c3, k3, k4⟩⟩ := h.objs
  simp only [List.mem_cons, List.not_mem_nil, or_false, not_or]
  refine ⟨?_, ?_, ?_⟩ <;> rintro rfl
  · rw [k1] at hj; injection hj with hj; injection hj with _ hj; exact h1 hj.symm
  · rw [k2] at hj; injection hj with hj; injection hj with _ hj; exact h2 hj.symm
  · rw [k4] at hj; injection hj with hj; cases hj
theorem own_blk {w : World} {base : Nat} {e : TypeId} {size n : Nat} {v : Value} {xs : List Value} (h : w.ownsRow base e size v n xs) : ∀ j, v.ownBlock = some j → ∃ cs, w.heap[j]? = some (.cells cs e (0, 0)) := by
  intro j hj
  rcases h.2 with ⟨rfl, _⟩ | ⟨g, cap, cur, rfl, _, hh, _⟩
  · cases hj
  · injection hj with hj
    subst hj
    exact ⟨_, hh⟩
/-- One record, as its row's cell has it. -/
structure RSl where
  A : Option Addr
  c : Nat
  bs : List UInt8
def RSl.v (r : RSl) : Value := .slice r.A r.bs.length r.c
def RSl.ok (w : World) (r : RSl) : Prop := OB w 0 r.v r.bs
/-- A slice, wherever in its block it begins. -/
def RowFrom (w : World) (e : TypeId) (v : Value) (xs : List Value) : Prop :=
  (v = .slice none 0 0 ∧ xs = []) ∨ ∃ g o c cs, v = .slice (some ⟨g, o, none⟩) xs.length c ∧ w.heap[g]? = some (.cells cs e (0, 0)) ∧ xs.length ≤ c ∧ o + c ≤ cs.size ∧ c ≤ maxLen ∧ ∀ j u, xs[j]? = some u → cs[o + j]? = some u
theorem RowFrom.nil (w : World) (e : TypeId) : RowFrom w e (.slice none 0 0) [] := .inl ⟨rfl, rfl⟩
theorem RowFrom.of_own {w : World} {base : Nat} {e : TypeId} {v : Value} {n : Nat} {xs : List Value} (h : w.ownsRow base e 1 v n xs) : RowFrom w e v xs := by
  have hl : xs.length = n := by rw [h.1, Nat.mul_one]
  rcases h.2 with ⟨rfl, rfl⟩ | ⟨g, cap, cur, rfl, _, hh, h1, h2, h3, h4⟩
  · exact .inl ⟨rfl, List.eq_nil_of_length_eq_zero hl⟩
  · refine .inr ⟨g, 0, cap, cur, by rw [hl], hh, by omega, by omega, h2, fun j u hj => ?_⟩
    rw [← h4, List.getElem?_take] at hj
    split at hj
    · rw [Nat.zero_add, ← Array.getElem?_toList]; exact hj
    · cases hj
theorem RowFrom.form {w : World} {e : TypeId} {v : Value} {xs : List Value} (h : RowFrom w e v xs) : ∃ A c, v = .slice A xs.length c ∧ xs.length ≤ c ∧ (A = none → c = 0) ∧ Lies w A xs := by
  rcases h with ⟨rfl, rfl⟩ | ⟨g, o, c, cs, rfl, hh, h1, h2, h3, h4⟩
  · exact ⟨none, 0, rfl, Nat.le_refl _, fun _ => rfl, Lies.nil _ _⟩
  · refine ⟨_, c, rfl, h1, fun e => (by cases e), fun j u hj => ⟨_, rfl, ?_⟩⟩
    rw [Addr.add_lit]
    exact (blk_cell hh).trans (h4 j u hj)
theorem RowFrom.only {w w' : World} {e : TypeId} {v : Value} {xs : List Value} {S : List Nat} (h : RowFrom w e v xs) (ho : Only w w' S) (hS : ∀ j cs f, w.heap[j]? = some (.cells cs e f) → j ∉ S) : RowFrom w' e v xs := by
  rcases h with h | ⟨g, o, c, cs, rfl, hh, r⟩
  · exact .inl h
  · exact .inr ⟨g, o, c, cs, rfl, (ho.block g (blk_lt hh) (hS _ _ _ hh)).trans hh, r⟩
theorem RowFrom.below {w w' : World} {e : TypeId} {v : Value} {xs : List Value} (h : RowFrom w e v xs) (ho : Below w.heap.size w w') : RowFrom w' e v xs :=
  h.only (.of_below ho []) (fun _ _ _ _ => List.not_mem_nil)
/-- The slice without its first elements. -/
theorem RowFrom.drop {w : World} {e : TypeId} {A A' : Option Addr} {n c k : Nat} {xs : List Value} (h : RowFrom w e (.slice A n c) xs) (hA : CutAt A A' k c 1) (hk : k ≤ n) : RowFrom w e (.slice A' (n - k) (c - k)) (xs.drop k) := by
  rcases h with ⟨hv, rfl⟩ | ⟨g, o, c2, cs, hv, hh, h1, h2, h3, h4⟩
  · injection hv with e1 e2 e3
    subst e1 e2 e3
    obtain rfl : k = 0 := by omega
    have : A' = none := by unfold CutAt at hA; simpa using hA
    subst this
    exact .inl ⟨rfl, rfl⟩
  · injection hv with e1 e2 e3
    subst e1 e2 e3
    have hl : xs.length - k = (xs.drop k).length := by rw [List.length_drop]
    unfold CutAt at hA
    by_cases hck : c = k
    · rw [if_pos hck] at hA
      subst hA
      refine .inr ⟨g, o, c - k, cs, by rw [hl], hh, by rw [List.length_drop]; omega, by omega, by omega, fun j u hj => ?_⟩
      have : (xs.drop k) = [] := List.eq_nil_of_length_eq_zero (by rw [List.length_drop]; omega)
      rw [this] at hj
      cases hj
    · rw [if_neg hck, Nat.mul_one, Option.map_some, Addr.add_lit] at hA
      subst hA
      refine .inr ⟨g, o + k, c - k, cs, by rw [hl], hh, by rw [List.length_drop]; omega, by omega, by omega, fun j u hj => ?_⟩
      rw [List.getElem?_drop] at hj
      rw [Nat.add_assoc]
      exact h4 _ _ hj
def RecsAt (w : World) (v : Value) (rs : List RSl) : Prop := RowFrom w 29 v (rs.map RSl.v) ∧ ∀ r ∈ rs, r.ok w
theorem RSl.ok.only {w w' : World} {r : RSl} {S : List Nat} (h : r.ok w) (ho : Only w w' S) (hS : ∀ j cs f, w.heap[j]? = some (.cells cs 5 f) → j ∉ S) : r.ok w' :=
  own_only h ho (fun j hj => by obtain ⟨cs, hc⟩ := own_blk h j hj; exact hS _ _ _ hc)
theorem RecsAt.only {w w' : World} {v : Value} {rs : List RSl} {S : List Nat} (h : RecsAt w v rs) (ho : Only w w' S) (hS : ∀ j cs e f, w.heap[j]? = some (.cells cs e f) → e = 5 ∨ e = 29 → j ∉ S) : RecsAt w' v rs :=
  ⟨h.1.only ho (fun j cs f hj => hS j cs _ f hj (.inr rfl)), fun r hr => (h.2 r hr).only ho (fun j cs f hj => hS j cs _ f hj (.inl rfl))⟩
theorem RecsAt.below {w w' : World} {v : Value} {rs : List RSl} (h : RecsAt w v rs) (ho : Below w.heap.size w w') : RecsAt w' v rs :=
  h.only (.of_below ho []) (fun _ _ _ _ _ _ => List.not_mem_nil)
/-- Over a device's doings. -/
theorem RecsAt.disk {w w' : World} {v : Value} {rs : List RSl} {g k m c : Nat} {d : Dsk} (h : RecsAt w v rs) (hd : DkAt w g k m c d) (ho : Only w w' [g, k, m]) : RecsAt w' v rs :=
  h.only ho (fun j cs e f hj he => hd.apart hj (by rcases he with rfl | rfl <;> decide) (by rcases he with rfl | rfl <;> decide))
theorem OB.disk {w w' : World} {base : Nat} {v : Value} {bs : List UInt8} {g k m c : Nat} {d : Dsk} (h : OB w base v bs) (hd : DkAt w g k m c d) (ho : Only w w' [g, k, m]) : OB w' base v bs :=
  own_only h ho (fun j hj => by obtain ⟨cs, hc⟩ := own_blk h j hj; exact hd.apart hc (by decide) (by decide))
/-- All bytes of a log. -/
def allP (snap : List UInt8) (recs : List (List UInt8)) : List UInt8 := framedP snap ++ recs.flatMap framedP
/-- A log that was laid anew, or why not; the device. -/
structure Laid where
  e : Nat
  d : Dsk
  pg : Nat
  ep : Nat
def layP (hf ep sl : Nat) (d : Dsk) (snap : List UInt8) (recs : List (List UInt8)) : Laid :=
  if growP 0 0 (allP snap recs).length d.room = false then ⟨8, d, 0, 0⟩
  else if d.nextE (1 - hf) ep ≠ 0 then ⟨d.nextE (1 - hf) ep, d, 0, 0⟩
  else
    let ep2 := d.topE (1 - hf) d.room ep + 1
    let p := pourP (1 - hf) ep2 (allP snap recs).length d 0 [] (allP snap recs)
    if p.e ≠ 0 then ⟨p.e, p.d, 0, 0⟩
    else if p.d.actE ≠ 0 then ⟨p.d.actE, p.d.synced, 0, 0⟩
    else if p.d.synced.putE (1 - sl : Nat) ep2 0 [UInt8.ofNat (1 - hf)] ≠ 0 then ⟨p.d.synced.putE (1 - sl : Nat) ep2 0 [UInt8.ofNat (1 - hf)], p.d.synced.put (1 - sl : Nat) ep2 0 [UInt8.ofNat (1 - hf)], 0, 0⟩
    else if (p.d.synced.put (1 - sl : Nat) ep2 0 [UInt8.ofNat (1 - hf)]).actE ≠ 0 then ⟨(p.d.synced.put (1 - sl : Nat) ep2 0 [UInt8.ofNat (1 - hf)]).actE, (p.d.synced.put (1 - sl : Nat) ep2 0 [UInt8.ofNat (1 - hf)]).synced, 0, 0⟩
    else ⟨0, (p.d.synced.put (1 - sl : Nat) ep2 0 [UInt8.ofNat (1 - hf)]).synced, if 0 < p.bs.length then p.pg + 1 else p.pg, ep2⟩
end Go.Proofs.Ytjfpanamkkdebaa
