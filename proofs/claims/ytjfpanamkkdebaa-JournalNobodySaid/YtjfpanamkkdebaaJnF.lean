/- A page written, with another stamp than it had. -/
import Derived.Test.YtjfpanamkkdebaaJnE
namespace Go.Proofs.Ytjfpanamkkdebaa
open Go.RowKit
set_option linter.unusedVariables false
set_option linter.unusedSimpArgs false
def Dsk.stamp (d : Dsk) (i : Int) : Nat := ((d.sheet i).tail + 1) % 4294967296
def Dsk.put (d : Dsk) (i : Int) (ep ix : Nat) (bs : List UInt8) : Dsk := if d.readE i = 0 then d.wrote i (foldP ep ix bs (d.stamp i)) else d
def Dsk.putE (d : Dsk) (i : Int) (ep ix : Nat) (bs : List UInt8) : Nat := if d.readE i = 0 then d.writeE i (foldP ep ix bs (d.stamp i)) else d.readE i
set_option maxHeartbeats 1600000 in
theorem put_any (g k m c : Nat) (d : Dsk) (i : Int) (ep ix : Nat) (A : Option Addr) (cc : Nat) (bs : List UInt8) (w : World) (h : DkAt w g k m c d) (hep : ep < 4294967296) (hix : ix < 65536) (hl : bs.length ≤ 113) (hr : RB w A bs) (hA : A = none → cc = 0) :
    Calls Try.prog 63 #[.pointer (some ⟨g, 0, none⟩), .int .i64 i, .int .i64 ep, .int .i64 ix, .slice A bs.length cc] w fun e w' => e = .returned (.int .i64 (d.putE i ep ix bs)) ∧ DkAt w' g k m c (d.put i ep ix bs) ∧ Only w w' [g, m] := by
  have HS := see_any g k m c d i w h
  by_cases hz : d.readE i = 0
  · have hst : d.stamp i = ((d.sheet i).tail + 1) % 4294967296 := rfl
    unfold Dsk.put Dsk.putE
    rw [if_pos hz, if_pos hz]
    rw [hz] at HS
    have hgk := h.gk
    have hgm := h.gm
    have hlt := h.lt
    generalize d.stamp i = st at *
    obtain ⟨S, hS⟩ : ∃ S, d.sheet i = S := ⟨_, rfl⟩
    rw [hS] at HS hst
    have HF := Lib.hid (fun W (hb : Below w.heap.size w W) => fold_any ep ix st A cc bs W hep (by omega) (by rw [hst]; exact Nat.mod_lt _ (by decide)) hl (hr.below hb) hA)
    have HW := Lib.hid (fun (A : Option Addr) (cc : Nat) (W : World) (hb : Below w.heap.size w W) (hr : RB W A (foldP ep ix bs st)) (hA : ∀ a, A = some a → (foldP ep ix bs st) ≠ [] → a.block ≠ g) => write_any g k m c d i A cc (foldP ep ix bs st) W (h.below hb) hr hA (by rw [foldP_length hl]; decide))
    have hfl := foldP_length (ep := ep) (ix := ix) (st := st) hl
    clear h hS hz
    generalize foldP ep ix bs st = F at *
    obtain ⟨p1, p2, bs2, wh, tl⟩ := S
    unfold shv at HS
    have HS := Lib.hid HS
    have HST := Lib.hid hst
    have HFL := Lib.hid hfl
    clear hst hfl hr hA
    go_enter Try.func63, Try.ntmps63
    go_wp2_with fail
    refine HS.out.mono ?_
    rintro e w1 ⟨v, rfl, ho, hb⟩
    obtain ⟨A2, c2, rfl, -⟩ := OB.form ho
    have HB := Lib.hid hb
    clear ho hb
    go_wp2_with fail
    have hbB : Below w.heap.size w (w1.alloc (.cells #[.int .i64 p1, .int .i64 p2, .slice A2 bs2.length c2, .bool wh, .int .u32 tl] 97)) := HB.out.alloc HB.out.size _
    have est : ((tl : Int) + 1) % 4294967296 = (st : Int) := by have h0 : st = (tl + 1) % 4294967296 := HST.out; rw [h0]; omega
    rw [est]
    generalize w1.alloc (.cells #[.int .i64 p1, .int .i64 p2, .slice A2 bs2.length c2, .bool wh, .int .u32 tl] 97) = wB at *
    clear est
    have HBB := Lib.hid hbB
    clear hbB
    refine (HF.out _ HBB.out).mono ?_
    rintro e w2 ⟨v2, rfl, ho, hb⟩
    obtain ⟨A3, c3, rfl, -⟩ := OB.form ho
    have hb2 : Below w.heap.size w w2 := HBB.out.trans (hb.mono HBB.out.size)
    have HWW := Lib.hid (HW.out A3 c3 w2 hb2 (RB.of_own ho) (fun a e hne => by
      subst e
      rcases ho.2 with ⟨e1, _⟩ | ⟨g2, _, _, e1, e2, _⟩
      · cases e1
      · injection e1 with e1; injection e1 with e1; subst e1; have := HBB.out.size; show g2 ≠ g; omega))
    have HB2 := Lib.hid hb2
    clear ho hb hb2 HW HF
    go_wp2_with (go_at_call 10; refine HWW.out.mono ?_; rintro e w' ⟨rfl, hd, ho⟩)
    go_ret
    exact ⟨rfl, hd, (Only.of_below (HB2.out.mono (Nat.le_refl _)) _).trans ho⟩
  · unfold Dsk.put Dsk.putE
    rw [if_neg hz, if_neg hz]
    have hz2 : ¬ ((d.readE i : Int) = 0) := by omega
    have hz3 : ((d.readE i : Int) == 0) = false := by simp; omega
    unfold shv at HS
    generalize d.readE i = E at *
    have HS := Lib.hid HS
    have HK := Lib.hid h
    clear h
    go_enter Try.func63, Try.ntmps63
    go_wp2_with (go_at_call 53; refine HS.out.mono ?_; rintro e w' ⟨v, rfl, ho, hb⟩; obtain ⟨A2, c2, rfl, -⟩ := OB.form ho)
    have hb2 : ∀ o : Obj, Below w.heap.size w (w'.alloc o) := fun o => hb.alloc hb.size o
    go_ret
    exact ⟨rfl, HK.out.below (hb2 _), Only.of_below (hb2 _) _⟩
end Go.Proofs.Ytjfpanamkkdebaa
