/- A device that no call made: the walks. -/
import Derived.Test.YtjfjeajbekhmdaaPgK
import Derived.Test.YtjfjeajbekhmdaaRow
namespace Go.Proofs.Ytjfjeajbekhmdaa
open Go.RowKit Go.Maps
set_option linter.unusedVariables false
set_option linter.unusedSimpArgs false
/-- A device that no call made: none at all, or the zero value. -/
def NoDk (w : World) (p : Option Addr) : Prop :=
  p = none ∨ ∃ q, p = some ⟨q, 0, none⟩ ∧ w.heap[q]? = some (.cells #[.bool false, .int .i64 0, .bool false, .slice none 0 0, .map none] 51 (0, 0))
theorem size_no (p : Option Addr) (w : World) (h : NoDk w p) :
    Calls Try.prog 18 #[.pointer p] w fun e w' => e = .returned (.int .i64 0) ∧ w = w' := by
  rcases h with rfl | ⟨q, rfl, hb⟩
  · go_enter Try.func18, Try.ntmps18
    go_wp2
    go_returns
    exact ⟨rfl, rfl⟩
  · have k3 : w.cell? ⟨q, 3, none⟩ = some (.slice none 0 0) := blk_cell hb
    clear hb
    go_enter Try.func18, Try.ntmps18
    go_wp2
    go_returns
    exact ⟨rfl, rfl⟩
theorem ask_no (p : Option Addr) (i : Int) (w : World) (h : NoDk w p) :
    Calls Try.prog 23 #[.pointer p, .int .i64 i] w fun e w' => e = .returned (.int .i64 2) ∧ w = w' := by
  have HS := Lib.hid (size_no p w h)
  clear h
  go_enter Try.func23, Try.ntmps23
  go_wp2_with (go_at_call 18; refine HS.out.mono ?_; rintro e w' ⟨rfl, rfl⟩)
  go_returns
  exact ⟨rfl, rfl⟩
theorem dead_no (p : Option Addr) (w : World) (h : NoDk w p) :
    Calls Try.prog 17 #[.pointer p] w fun e w' => e = .returned (.bool false) ∧ w = w' := by
  have HS := Lib.hid (size_no p w h)
  clear h
  go_enter Try.func17, Try.ntmps17
  go_wp2_with (go_at_call 18; refine HS.out.mono ?_; rintro e w' ⟨rfl, rfl⟩)
  go_returns
  exact ⟨rfl, rfl⟩
theorem loose_no (p : Option Addr) (w : World) (h : NoDk w p) :
    Calls Try.prog 19 #[.pointer p] w fun e w' => e = .returned (.slice none 0 0) ∧ w = w' := by
  have HS := Lib.hid (size_no p w h)
  clear h
  go_enter Try.func19, Try.ntmps19
  go_wp2_with (go_at_call 18; refine HS.out.mono ?_; rintro e w' ⟨rfl, rfl⟩)
  go_returns
  exact ⟨rfl, rfl⟩
theorem sync_no (p : Option Addr) (w : World) (h : NoDk w p) :
    Calls Try.prog 9 #[.pointer p] w fun e w' => e = .returned (.int .i64 2) ∧ w = w' := by
  have HS := Lib.hid (size_no p w h)
  clear h
  go_enter Try.func9, Try.ntmps9
  go_wp2_with (go_at_call 18; refine HS.out.mono ?_; rintro e w' ⟨rfl, rfl⟩)
  go_returns
  exact ⟨rfl, rfl⟩
theorem fuse_no (p : Option Addr) (n : Int) (w : World) (h : NoDk w p) :
    Calls Try.prog 16 #[.pointer p, .int .i64 n] w fun e w' => e = .returned (.int .i64 2) ∧ w = w' := by
  have HS := Lib.hid (size_no p w h)
  clear h
  go_enter Try.func16, Try.ntmps16
  go_wp2_with (go_at_call 18; refine HS.out.mono ?_; rintro e w' ⟨rfl, rfl⟩)
  go_returns
  exact ⟨rfl, rfl⟩
theorem crash_no (p : Option Addr) (v : Value) (i n : Int) (w : World) (h : NoDk w p) :
    Calls Try.prog 12 #[.pointer p, v, .int .i64 i, .int .i64 n] w fun e w' => e = .returned (.int .i64 2) ∧ w = w' := by
  have HS := Lib.hid (size_no p w h)
  clear h
  go_enter Try.func12, Try.ntmps12
  go_wp2_with (go_at_call 18; refine HS.out.mono ?_; rintro e w' ⟨rfl, rfl⟩)
  go_returns
  exact ⟨rfl, rfl⟩
theorem clone_no (p : Option Addr) (w : World) (h : NoDk w p) :
    Calls Try.prog 20 #[.pointer p] w fun e w' => e = .returned (.pointer none) ∧ w = w' := by
  have HS := Lib.hid (size_no p w h)
  clear h
  go_enter Try.func20, Try.ntmps20
  go_wp2_with (go_at_call 18; refine HS.out.mono ?_; rintro e w' ⟨rfl, rfl⟩)
  go_returns
  exact ⟨rfl, rfl⟩
theorem write_no (p : Option Addr) (i : Int) (v : Value) (w : World) (h : NoDk w p) :
    Calls Try.prog 8 #[.pointer p, .int .i64 i, v] w fun e w' => e = .returned (.int .i64 2) ∧ w = w' := by
  have HS := Lib.hid (ask_no p i w h)
  clear h
  go_enter Try.func8, Try.ntmps8
  go_wp2_with (go_at_call 23; refine HS.out.mono ?_; rintro e w' ⟨rfl, rfl⟩)
  go_returns
  exact ⟨rfl, rfl⟩
theorem read_no (p : Option Addr) (i : Int) (w : World) (h : NoDk w p) :
    Calls Try.prog 13 #[.pointer p, .int .i64 i] w fun e w' => e = .returned (.tuple #[.slice none 0 0, .int .i64 2]) ∧ w = w' := by
  have HS := Lib.hid (ask_no p i w h)
  clear h
  go_enter Try.func13, Try.ntmps13
  go_wp2_with (go_at_call 23; refine HS.out.mono ?_; rintro e w' ⟨rfl, rfl⟩)
  go_ret2
  exact ⟨rfl, rfl⟩
set_option maxHeartbeats 3200000 in
theorem nobody_any (i n : Int) (vb vk : Value) (w : World) :
    Calls Try.prog 5 #[.int .i64 i, .int .i64 n, vb, vk] w fun e w' => e = .returned (.bool true) ∧ Below w.heap.size w w' := by
  go_enter Try.func5, Try.ntmps5
  go_wp2_with fail
  have hb0 : Below w.heap.size w ((w.alloc (.cells #[.bool false, .int .i64 0, .bool false, .slice none 0 0, .map none] 51)).alloc (.cells #[.pointer none, .pointer (some ⟨w.heap.size, 0, none⟩)] 24)) := ((Below.refl _ _).alloc (Nat.le_refl _) _).alloc (size_alloc_le w _) _
  have hp : ∀ j : Nat, j < 2 → ∃ p, ((w.alloc (.cells #[.bool false, .int .i64 0, .bool false, .slice none 0 0, .map none] 51)).alloc (.cells #[.pointer none, .pointer (some ⟨w.heap.size, 0, none⟩)] 24)).cell? ⟨w.heap.size + 1, j, none⟩ = some (.pointer p) ∧ NoDk ((w.alloc (.cells #[.bool false, .int .i64 0, .bool false, .slice none 0 0, .map none] 51)).alloc (.cells #[.pointer none, .pointer (some ⟨w.heap.size, 0, none⟩)] 24)) p := by
    intro j hj
    have e2 : (w.alloc (.cells #[.bool false, .int .i64 0, .bool false, .slice none 0 0, .map none] 51)).heap.size = w.heap.size + 1 := by simp
    have hblk := heap_alloc_new (w.alloc (.cells #[.bool false, .int .i64 0, .bool false, .slice none 0 0, .map none] 51)) (.cells #[.pointer none, .pointer (some ⟨w.heap.size, 0, none⟩)] 24)
    rw [e2] at hblk
    match j, hj with
    | 0, _ => exact ⟨none, blk_cell hblk, .inl rfl⟩
    | 1, _ => exact ⟨_, blk_cell hblk, .inr ⟨w.heap.size, rfl, blk_alloc (heap_alloc_new w _)⟩⟩
  generalize (w.alloc (.cells #[.bool false, .int .i64 0, .bool false, .slice none 0 0, .map none] 51)).alloc (.cells #[.pointer none, .pointer (some ⟨w.heap.size, 0, none⟩)] 24) = W at hb0 hp ⊢
  have HP := Lib.hid hp
  clear hp
  go_loopg [17] 2 (fun r x wr => ∃ j : Nat, j + r = 2 ∧ x = .int .i64 j ∧ W = wr)
  case atStart => exact ⟨0, rfl, rfl, rfl⟩
  case round =>
    obtain ⟨j, hj, rfl, rfl⟩ := hrel
    by_cases hj2 : j < 2
    · have hj1 : decide ((j : Int) < 2) = true := decide_eq_true (by omega)
      have hj0 : (0 : Int) ≤ (j : Int) := by omega
      have hj3 : (j : Int) < 2 := by omega
      obtain ⟨p, hc, hno⟩ := HP.out j hj2
      have H1 := Lib.hid (read_no p i W hno)
      have H2 := Lib.hid (size_no p W hno)
      have H3 := Lib.hid (loose_no p W hno)
      have H4 := Lib.hid (write_no p i vb W hno)
      have H5 := Lib.hid (sync_no p W hno)
      have H6 := Lib.hid (crash_no p vk i n W hno)
      have H7 := Lib.hid (fuse_no p n W hno)
      have H8 := Lib.hid (dead_no p W hno)
      have H9 := Lib.hid (clone_no p W hno)
      clear hno
      go_wp2_with (first
        | (go_at_call 13; refine H1.out.mono ?_; rintro e w' ⟨rfl, rfl⟩)
        | (go_at_call 18; refine H2.out.mono ?_; rintro e w' ⟨rfl, rfl⟩)
        | (go_at_call 19; refine H3.out.mono ?_; rintro e w' ⟨rfl, rfl⟩)
        | (go_at_call 8; refine H4.out.mono ?_; rintro e w' ⟨rfl, rfl⟩)
        | (go_at_call 9; refine H5.out.mono ?_; rintro e w' ⟨rfl, rfl⟩)
        | (go_at_call 12; refine H6.out.mono ?_; rintro e w' ⟨rfl, rfl⟩)
        | (go_at_call 16; refine H7.out.mono ?_; rintro e w' ⟨rfl, rfl⟩)
        | (go_at_call 17; refine H8.out.mono ?_; rintro e w' ⟨rfl, rfl⟩)
        | (go_at_call 20; refine H9.out.mono ?_; rintro e w' ⟨rfl, rfl⟩))
      go_roundg (2 - (j + 1))
      case measure => omega
      case rel => exact ⟨j + 1, by omega, by go_num, rfl⟩
    · obtain rfl : j = 2 := by omega
      have HAw := Lib.hid (awake_any W)
      go_wp2_with (go_at_call 15; refine HAw.out.mono ?_; rintro e w6 ⟨rfl, hb6⟩)
      go_returns
      exact ⟨rfl, hb0.trans (hb6.mono hb0.size)⟩
theorem nobody_walk (i n : Int) (A : Option Addr) (c : Nat) (bs : List UInt8) (B : Option Addr) (d : Nat) (zs : List Int) (w : World) (hi : (Lit.int .i64 i).wf = true) (hn : (Lit.int .i64 n).wf = true)
    (h1 : RB w A bs) (h2 : A = none → c = 0) (h3 : bs.length ≤ c) (h4 : bs.length ≤ 140737488351232)
    (k1 : Lies w B (zs.map (Value.int .i64))) (k2 : B = none → d = 0) (k3 : zs.length ≤ d) (k4 : zs.length * 8 ≤ 140737488351232) (k5 : ∀ z ∈ zs, (Lit.int .i64 z).wf = true) :
    Calls Try.prog 5 #[.int .i64 i, .int .i64 n, .slice A bs.length c, .slice B zs.length d] w fun e w' => e = .returned (.bool true) ∧ Below w.heap.size w w' :=
  nobody_any i n _ _ w
end Go.Proofs.Ytjfjeajbekhmdaa
