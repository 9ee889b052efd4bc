/- Sets of any bytes: what a reader, and the document's, find. -/
import Derived.Test.YtopgikjmeebgbaaDoorCou
namespace Go.Proofs.YtopgikjmeebgbaaDoor
open Go.RowKit
set_option linter.unusedVariables false
set_option linter.unusedSimpArgs false
def setP (bs : List UInt8) : Out (List Bool) :=
  match numP 65536 bs with
  | .no e => .no e
  | .ok n r => match risingP n ((n : Int) - 1) r with
    | .no e => .no e
    | .ok l r' => .ok (bitsOf n l) r'
def Out.bits : Out (List Bool) → List Bool
  | .ok b _ => b
  | .no _ => []
def Out.left {α : Type} : Out α → List UInt8
  | .ok _ r => r
  | .no _ => []
def Out.err {α : Type} : Out α → Nat
  | .ok _ _ => 0
  | .no e => e
def BehindF {α : Type} (w : World) (g : Nat) (o : Out α) : Prop :=
  match o with
  | .ok _ r => RfOk w g r
  | .no e => RfNo w g e
theorem setP_no {bs : List UInt8} {e : Nat} (h : numP 65536 bs = .no e) : setP bs = .no e := by rw [setP, h]
theorem setP_no2 {bs r : List UInt8} {n e : Nat} (h : numP 65536 bs = .ok n r) (h2 : risingP n ((n : Int) - 1) r = .no e) : setP bs = .no e := by rw [setP, h]; simp only; rw [h2]
theorem setP_ok {bs r r' : List UInt8} {n : Nat} {l : List Int} (h : numP 65536 bs = .ok n r) (h2 : risingP n ((n : Int) - 1) r = .ok l r') : setP bs = .ok (bitsOf n l) r' := by rw [setP, h]; simp only; rw [h2]
theorem rdrising_no (g c : Nat) (many top : Int) (w : World) (h : RdNo w g c) :
    Calls Tryd.prog 54 #[.pointer (some ⟨g, 0, none⟩), .int .i64 many, .int .i64 top] w fun e w' => e = .returned (.slice none 0 0) ∧ w = w' := by
  have HR := Lib.hid (num_no g c many w h)
  clear h
  go_enter Tryd.func54, Tryd.ntmps54
  go_wp2_with (go_at_call 53; refine HR.out.mono ?_; rintro e w1 ⟨rfl, rfl⟩)
  go_loopg [8, 9, 14] 0 (fun r v la i wr => wr = w ∧ i = .int .i64 0 ∧ v = .slice none 0 0)
  case atStart => exact ⟨rfl, rfl, rfl⟩
  case round =>
    obtain ⟨rfl, rfl, rfl⟩ := hrel
    go_wp2
    go_returns
    exact ⟨rfl, rfl⟩
theorem rfrising_no (g c : Nat) (many top : Int) (w : World) (h : RfNo w g c) :
    Calls Tryd.prog 58 #[.pointer (some ⟨g, 0, none⟩), .int .i64 many, .int .i64 top] w fun e w' => e = .returned (.slice none 0 0) ∧ w = w' := by
  have HR := Lib.hid (rfnum_no g c many w h)
  clear h
  go_enter Tryd.func58, Tryd.ntmps58
  go_wp2_with (go_at_call 57; refine HR.out.mono ?_; rintro e w1 ⟨rfl, rfl⟩)
  go_loopg [8, 16] 0 (fun r v i wr => wr = w ∧ i = .int .i64 0 ∧ v = .slice none 0 0)
  case atStart => exact ⟨rfl, rfl, rfl⟩
  case round =>
    obtain ⟨rfl, rfl, rfl⟩ := hrel
    go_wp2
    go_returns
    exact ⟨rfl, rfl⟩
theorem bread_bytes (g : Nat) (bs : List UInt8) (w : World) (h : RdOk w g bs) (hm : bs.length ≤ 140737488355300) :
    Calls Tryd.prog 33 #[.pointer (some ⟨g, 0, none⟩)] w fun e w' => ∃ gs Ws, e = .returned (.pointer (some ⟨gs, 0, none⟩)) ∧ SetAt w' gs Ws (setP bs).bits ∧ w.heap.size ≤ Ws ∧ Behind w' g (setP bs) ∧ w.grownBy w' (some g) := by
  cases hn : numP 65536 bs with
  | no c =>
    rw [setP_no hn]
    have hc := numP_err hn
    have := bread_gen g 0 c [] (fun w => RdNo w g c) (fun w => RdNo w g c) w h.lt (rdnum_no hn w h hm)
      (fun w1 h1 => (rdrising_no g c _ _ w1 h1).mono (by rintro e w2 ⟨rfl, rfl⟩; exact ⟨_, rfl, World.ownsRow_nil _ _ _ _, h1, World.grownBy.refl _ _⟩))
      (fun w1 h1 => err_no g c w1 h1) (fun w1 w2 h1 h2 => h1.alike h2) (fun w1 w2 row h1 h2 h3 => h1.own h2 h3) (by simp) (by decide) (Nat.le_refl _) (by omega)
    rw [if_neg (by omega)] at this
    exact this
  | ok n r =>
    obtain ⟨h1, h2, h3⟩ := numP_ok hn
    cases hr : risingP n ((n : Int) - 1) r with
    | no c =>
      rw [setP_no2 hn hr]
      have hc := risingP_err hr
      have := bread_gen g n c [] (fun w => RdOk w g r) (fun w => RdNo w g c) w h.lt (rdnum_ok hn w h hm)
        (fun w1 k1 => (rdrising g n ((n : Int) - 1) r w1 (by omega) (by omega) (by omega) k1 (by omega)).mono (by
          rintro e w2 ⟨v, l, rfl, ho, ⟨r', hr', k2⟩ | ⟨c', hc', rfl, k2⟩, hg⟩
          · rw [hr] at hr'; cases hr'
          · rw [hr] at hc'; cases hc'; exact ⟨_, rfl, ho, k2, hg⟩))
        (fun w1 h1 => err_no g c w1 h1) (fun w1 w2 h1 h2 => h1.alike h2) (fun w1 w2 row h1 h2 h3 => h1.own h2 h3) (by simp) (by omega) (Nat.zero_le _) (by omega)
      rw [if_neg (by omega)] at this
      exact this
    | ok l r' =>
      rw [setP_ok hn hr]
      obtain ⟨k1, k2, k3⟩ := risingP_ok hr
      exact bread_gen g n 0 l (fun w => RdOk w g r) (fun w => RdOk w g r') w h.lt (rdnum_ok hn w h hm)
        (fun w1 k1 => (rdrising g n ((n : Int) - 1) r w1 (by omega) (by omega) (by omega) k1 (by omega)).mono (by
          rintro e w2 ⟨v, l2, rfl, ho, ⟨r2, hr', k2⟩ | ⟨c', hc', rfl, k2⟩, hg⟩
          · rw [hr] at hr'; cases hr'; exact ⟨_, rfl, ho, k2, hg⟩
          · rw [hr] at hc'; cases hc'))
        (fun w1 h1 => rerrok g r' w1 h1) (fun w1 w2 h1 h2 => h1.alike h2) (fun w1 w2 row h1 h2 h3 => h1.own h2 h3) (fun z hz => k2 z hz) (by omega) (by omega) (by decide)
theorem rread_bytes (g : Nat) (bs : List UInt8) (w : World) (h : RfOk w g bs) (hm : bs.length ≤ 140737488355300) :
    Calls Tryd.prog 38 #[.pointer (some ⟨g, 0, none⟩)] w fun e w' => ∃ gs Rs, e = .returned (.pointer (some ⟨gs, 0, none⟩)) ∧ RefAt w' gs Rs (setP bs).bits ∧ w.heap.size ≤ Rs ∧ BehindF w' g (setP bs) ∧ w.grownBy w' (some g) := by
  cases hn : numP 65536 bs with
  | no c =>
    rw [setP_no hn]
    have hc := numP_err hn
    have := rread_gen g 0 c [] (fun w => RfNo w g c) (fun w => RfNo w g c) w h.lt (rfnum_no' hn w h hm)
      (fun w1 h1 => (rfrising_no g c _ _ w1 h1).mono (by rintro e w2 ⟨rfl, rfl⟩; exact ⟨_, rfl, World.ownsRow_nil _ _ _ _, h1, World.grownBy.refl _ _⟩))
      (fun w1 h1 => h1.err) (fun w1 w2 h1 h2 => h1.alike h2) (fun w1 w2 row h1 h2 h3 => h1.own h2 h3) (by simp) (by decide) (Nat.le_refl _) (by omega)
    rw [if_neg (by omega)] at this
    exact this
  | ok n r =>
    obtain ⟨h1, h2, h3⟩ := numP_ok hn
    cases hr : risingP n ((n : Int) - 1) r with
    | no c =>
      rw [setP_no2 hn hr]
      have hc := risingP_err hr
      have := rread_gen g n c [] (fun w => RfOk w g r) (fun w => RfNo w g c) w h.lt (rfnum_ok hn w h hm)
        (fun w1 k1 => (rfrising g n ((n : Int) - 1) r w1 (by omega) (by omega) (by omega) k1 (by omega)).mono (by
          rintro e w2 ⟨v, l, rfl, ho, ⟨r', hr', k2⟩ | ⟨c', hc', rfl, k2⟩, hg⟩
          · rw [hr] at hr'; cases hr'
          · rw [hr] at hc'; cases hc'; exact ⟨_, rfl, ho, k2, hg⟩))
        (fun w1 h1 => h1.err) (fun w1 w2 h1 h2 => h1.alike h2) (fun w1 w2 row h1 h2 h3 => h1.own h2 h3) (by simp) (by omega) (Nat.zero_le _) (by omega)
      rw [if_neg (by omega)] at this
      exact this
    | ok l r' =>
      rw [setP_ok hn hr]
      obtain ⟨k1, k2, k3⟩ := risingP_ok hr
      exact rread_gen g n 0 l (fun w => RfOk w g r) (fun w => RfOk w g r') w h.lt (rfnum_ok hn w h hm)
        (fun w1 k1 => (rfrising g n ((n : Int) - 1) r w1 (by omega) (by omega) (by omega) k1 (by omega)).mono (by
          rintro e w2 ⟨v, l2, rfl, ho, ⟨r2, hr', k2⟩ | ⟨c', hc', rfl, k2⟩, hg⟩
          · rw [hr] at hr'; cases hr'; exact ⟨_, rfl, ho, k2, hg⟩
          · rw [hr] at hc'; cases hc'))
        (fun w1 h1 => by obtain ⟨A, c, h⟩ := h1; exact h.err) (fun w1 w2 h1 h2 => h1.alike h2) (fun w1 w2 row h1 h2 h3 => h1.own h2 h3) (fun z hz => k2 z hz) (by omega) (by omega) (by decide)
theorem behind_err {α : Type} (g : Nat) (o : Out α) (w : World) (h : Behind w g o) :
    Calls Tryd.prog 39 #[.pointer (some ⟨g, 0, none⟩)] w fun e w' => e = .returned (.int .i64 o.err) ∧ w = w' := by
  cases o with
  | ok x r => exact rerrok g r w h
  | no e => exact err_no g e w h
theorem behind_left {α : Type} (g : Nat) (o : Out α) (w : World) (h : Behind w g o) :
    Calls Tryd.prog 40 #[.pointer (some ⟨g, 0, none⟩)] w fun e w' => e = .returned (.int .i64 o.left.length) ∧ w = w' := by
  cases o with
  | ok x r => exact rleftok g r w h
  | no e => exact left_no g e w h
theorem behindF_err {α : Type} {g : Nat} {o : Out α} {w : World} (h : BehindF w g o) : w.cell? ⟨g, 1, none⟩ = some (.int .i64 o.err) := by
  cases o with
  | ok x r => obtain ⟨A, c, h⟩ := h; exact h.err
  | no e => exact h.err
theorem behindF_rest {α : Type} {g : Nat} {o : Out α} {w : World} (h : BehindF w g o) : ∃ A c, w.cell? ⟨g, 0, none⟩ = some (.slice A o.left.length c) := by
  cases o with
  | ok x r => obtain ⟨A, c, h⟩ := h; exact ⟨A, c, h.rest⟩
  | no e => exact ⟨none, 0, h.rest⟩
theorem Behind.own {α : Type} {g : Nat} {o : Out α} {w w' : World} {row : Option Nat} (h : Behind w g o) (hg : w.grownBy w' row) (hr : ∀ k, row = some k → g < k) : Behind w' g o := by
  cases o with
  | ok x r => exact RdOk.own h hg hr
  | no e => exact RdNo.own h hg hr
theorem Behind.below {α : Type} {g : Nat} {o : Out α} {w w' : World} (h : Behind w g o) (hb : Below w.heap.size w w') : Behind w' g o := by
  cases o with
  | ok x r => exact RdOk.alike h hb
  | no e => exact RdNo.alike h hb
theorem BehindF.below {α : Type} {g : Nat} {o : Out α} {w w' : World} (h : BehindF w g o) (hb : Below w.heap.size w w') : BehindF w' g o := by
  cases o with
  | ok x r => exact RfOk.alike h hb
  | no e => exact RfNo.alike h hb
theorem RfOk.made {w w' : World} {g q c : Nat} {A : Option Addr} {bs : List UInt8} (h : RfAt w g A c bs) (hg : w.grownBy w' (some q)) (hq : q ≠ g) (hA : ∀ a, A = some a → a.block ≠ q) : RfOk w' g bs :=
  ⟨A, c, by rw [hg.block g h.lt (fun e => hq (by injection e with e; exact e.symm))]; exact h.cells, Lies.grown h.bytes hg (fun a e e2 => hA a e (by injection e2)), h.cap0, h.cap, h.block⟩
end Go.Proofs.YtopgikjmeebgbaaDoor
