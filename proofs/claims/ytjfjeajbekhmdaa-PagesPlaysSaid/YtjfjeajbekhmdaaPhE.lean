/- PagesPlays: the walk. -/
import Derived.Test.YtjfjeajbekhmdaaPhB
import Derived.Test.YtjfjeajbekhmdaaPhC
import Derived.Test.YtjfjeajbekhmdaaPhD
import Derived.Test.YtjfjeajbekhmdaaPgJ
import Derived.Test.YtjfjeajbekhmdaaPgK
namespace Go.Proofs.Ytjfjeajbekhmdaa
open Go.RowKit Go.Maps
set_option linter.unusedVariables false
set_option linter.unusedSimpArgs false
/-- A size that is none: both are nil. -/
theorem plays_not (n i : Int) (L : Option Addr) (cl : Nat) (ls : List Laid) (w : World) (hn : n < 1 ∨ 4096 < n) :
    Calls Try.prog 6 #[.int .i64 n, .slice L ls.length cl, .int .i64 i] w fun e w' => e = .returned (.bool true) ∧ Below w.heap.size w w' := by
  have HN := Lib.hid (fun w2 => new_not n w2 hn)
  have HM := Lib.hid (fun w2 => rnew_not n w2 hn)
  have HAw := Lib.hid (fun w2 => awake_any w2)
  by_cases h1 : n < 1
  · have q1 : decide (n > 50) = false := decide_eq_false (by omega)
    have q2 : decide (50 < n) = false := decide_eq_false (by omega)
    clear hn h1
    go_enter Try.func6, Try.ntmps6
    go_wp2_with (first
      | (go_at_call 7; refine (HN.out _).mono ?_; rintro e w1 ⟨rfl, rfl⟩)
      | (go_at_call 10; refine (HM.out _).mono ?_; rintro e w1 ⟨rfl, rfl⟩)
      | (go_at_call 15; refine (HAw.out _).mono ?_; rintro e w9 ⟨rfl, hb9⟩))
    go_returns
    exact ⟨rfl, hb9⟩
  · have q1 : decide (n > 50) = true := decide_eq_true (by omega)
    have q2 : decide (50 < n) = true := decide_eq_true (by omega)
    have q3 : decide (n ≤ 4096) = false := decide_eq_false (by omega)
    clear hn h1
    go_enter Try.func6, Try.ntmps6
    go_wp2_with (first
      | (go_at_call 7; refine (HN.out _).mono ?_; rintro e w1 ⟨rfl, rfl⟩)
      | (go_at_call 10; refine (HM.out _).mono ?_; rintro e w1 ⟨rfl, rfl⟩)
      | (go_at_call 15; refine (HAw.out _).mono ?_; rintro e w9 ⟨rfl, hb9⟩))
    go_returns
    exact ⟨rfl, hb9⟩
set_option maxRecDepth 100000 in
set_option maxHeartbeats 3200000 in
theorem plays_any (n i : Int) (m : Nat) (L : Option Addr) (cl : Nat) (ls : List Laid) (w : World) (hm1 : 1 ≤ m) (hm50 : m ≤ 50) (hnm : n = m ∨ (m = 50 ∧ 50 < n ∧ n ≤ 4096)) 
    (hL : Lies w L (ls.flatMap dk)) (hI : ∀ x ∈ ls, x.In w) (hl : ls.length ≤ 9223372036854775807) :
    Calls Try.prog 6 #[.int .i64 n, .slice L ls.length cl, .int .i64 i] w fun e w' => e = .returned (.bool true) ∧ Below w.heap.size w w' := by
  have HN := Lib.hid (fun w2 => new_any m w2 hm1 (by omega))
  have HM := Lib.hid (fun w2 => rnew_any m w2 hm1 (by omega))
  have HLs := Lib.hid hL
  have HAw := Lib.hid (fun w2 => awake_any w2)
  have kc := fun (w : World) (C : Array Value) (n c : Nat) => Lib.run_convert_bytes_const (P := Try.prog) w 22 5 C n c Try.underlying22 Try.underlying5
  have HNm := Lib.hid hnm
  clear hnm hL
  go_enter Try.func6, Try.ntmps6
  go_upto_region 1 with fail
  go_cut [23] from 18 (fun s23 w2 => w = w2 ∧ ((s23 = .bool false ∧ n = m) ∨ (s23 = .bool true ∧ m = 50)))
  case first =>
    by_cases h50 : 50 < n
    · have q1 : decide (n > 50) = true := decide_eq_true h50
      have q2 : decide (50 < n) = true := decide_eq_true h50
      have q3 : decide (n ≤ 4096) = true := decide_eq_true (by have := HNm.out; omega)
      have q4 : m = 50 := by have := HNm.out; omega
      have Q4 := Lib.hid q4
      clear h50 q4
      go_wp2
      go_meet
      exact ⟨rfl, .inr ⟨rfl, Q4.out⟩⟩
    · have q1 : decide (n > 50) = false := decide_eq_false h50
      have q2 : decide (50 < n) = false := decide_eq_false h50
      have q4 : n = m := by have := HNm.out; omega
      have Q4 := Lib.hid q4
      clear h50 q4
      go_wp2
      go_meet
      exact ⟨rfl, .inl ⟨rfl, Q4.out⟩⟩
  case rest =>
    obtain ⟨rfl, hc1⟩ := hcut
    have HC1 := Lib.hid hc1
    clear hc1 HNm
    go_upto_if 23 with fail
    go_cut [0] from 18 (fun s0 w2 => w = w2 ∧ s0 = .int .i64 m)
    case first =>
      rcases HC1.out with ⟨rfl, h2⟩ | ⟨rfl, h2⟩
      · go_wp2
        go_meet
        exact ⟨rfl, by first | rfl | rw [h2]⟩
      · go_wp2
        go_meet
        exact ⟨rfl, by first | rfl | (rw [h2]; rfl)⟩
    case rest =>
      obtain ⟨rfl, rfl⟩ := hcut
      clear HC1
      go_wp2_with (first
        | (go_at_call 7; refine (HN.out _).mono ?_; rintro e w1 ⟨G, K, M, rfl, hd1, hb1, g1, g2, g3⟩)
        | (go_at_call 10; refine (HM.out _).mono ?_; rintro e w4 ⟨vN, vH, vI, rfl, hm4, hb4⟩))
      clear HN HM
      obtain ⟨a, b, c, x, y, z, hf4, la, lb, lc⟩ := hm4.at hm1
      clear hm4
      have hz3 := hd1.lt
      have hs1 := hb1.size
      have hb04 : Below w.heap.size w w4 := hb1.trans (hb4.mono hs1)
      obtain ⟨g, hg⟩ : ∃ g, g = w1.heap.size := ⟨_, rfl⟩
      rw [← hg] at hf4 la lb lc hz3 hs1 ⊢
      have hblk : ∀ i ∈ [G, K, M, g, a, b, c], w.heap.size ≤ i := fun i h => by simp at h; omega
      have hT4 : Two w4 G K M m g a b c x y z (fresh m) (fresh m) := ⟨hd1.below hb4, hf4, fresh_ok hm1 (by omega), fun h => by simp at h; omega, fun h => by simp at h; omega, fun h => by simp at h; omega⟩
      have HBK := Lib.hid hblk
      clear hd1 hb4 hf4 hb1 hs1 la lb lc hz3 g1 g2 g3 hblk
      go_loopg [49] ls.length (fun r i wr => ∃ (j : Nat) (d : Dsk), j + r = ls.length ∧ i = .int .i64 j ∧ Two wr G K M m g a b c x y z d d ∧ Below w.heap.size w wr)
      case atStart => exact ⟨0, _, by omega, rfl, hT4, hb04⟩
      case round =>
        clear hT4 hb04 hg
        obtain ⟨j, d, hj, rfl, hT, hb⟩ := hrel
        by_cases hjl : j < ls.length
        · obtain ⟨p, rfl, hcell⟩ := laid_at (HLs.out.below hb) j hjl
          have hk := hI _ (List.getElem_mem hjl)
          generalize ls[j] = kx at hcell hk
          unfold dk at hcell
          have HC := Lib.hid hcell
          clear hcell
          go_upto_region 12 with (refine wpList_load_any rfl 35 (.tmp 52) rfl _ rfl _ _ HC.out rfl rfl info_act ?_)
          have hb5 : Below wr.heap.size wr (wr.alloc (.cells #[.int .i64 kx.k.op, .int .i64 kx.k.i, .int .i64 kx.k.n, .slice kx.A kx.k.b.length kx.cc, .slice kx.B kx.k.keep.length kx.kc] 35)) := (Below.refl _ _).alloc (Nat.le_refl _) _
          have hx0 : (wr.alloc (.cells #[.int .i64 kx.k.op, .int .i64 kx.k.i, .int .i64 kx.k.n, .slice kx.A kx.k.b.length kx.cc, .slice kx.B kx.k.keep.length kx.kc] 35)).cell? ⟨wr.heap.size, 0, none⟩ = some (.int .i64 kx.k.op) := by go_cell
          have hx1 : (wr.alloc (.cells #[.int .i64 kx.k.op, .int .i64 kx.k.i, .int .i64 kx.k.n, .slice kx.A kx.k.b.length kx.cc, .slice kx.B kx.k.keep.length kx.kc] 35)).cell? ⟨wr.heap.size, 1, none⟩ = some (.int .i64 kx.k.i) := by go_cell
          have hx2 : (wr.alloc (.cells #[.int .i64 kx.k.op, .int .i64 kx.k.i, .int .i64 kx.k.n, .slice kx.A kx.k.b.length kx.cc, .slice kx.B kx.k.keep.length kx.kc] 35)).cell? ⟨wr.heap.size, 2, none⟩ = some (.int .i64 kx.k.n) := by go_cell
          have hx3 : (wr.alloc (.cells #[.int .i64 kx.k.op, .int .i64 kx.k.i, .int .i64 kx.k.n, .slice kx.A kx.k.b.length kx.cc, .slice kx.B kx.k.keep.length kx.kc] 35)).cell? ⟨wr.heap.size, 3, none⟩ = some (.slice kx.A kx.k.b.length kx.cc) := by go_cell
          have hx4 : (wr.alloc (.cells #[.int .i64 kx.k.op, .int .i64 kx.k.i, .int .i64 kx.k.n, .slice kx.A kx.k.b.length kx.cc, .slice kx.B kx.k.keep.length kx.kc] 35)).cell? ⟨wr.heap.size, 4, none⟩ = some (.slice kx.B kx.k.keep.length kx.kc) := by go_cell
          have hT5 := hT.below hb5
          have hb05 := hb.trans (hb5.mono hb.size)
          generalize (wr.alloc (.cells #[.int .i64 kx.k.op, .int .i64 kx.k.i, .int .i64 kx.k.n, .slice kx.A kx.k.b.length kx.cc, .slice kx.B kx.k.keep.length kx.kc] 35)) = W5 at hb5 hx0 hx1 hx2 hx3 hx4 hT5 hb05 ⊢
          have HSt := Lib.hid (step_any G K M m g a b c x y z d d kx w W5 hT5 hk hb05 HBK.out)
          generalize wr.heap.size = N5 at *
          clear hT hb hb5 HC
          by_cases h60 : j < 60
          · have e60 : decide ((j : Int) < 60) = true := decide_eq_true (by omega)
            clear hT5
            go_wp2_with (go_at_call 11; refine HSt.out.mono ?_; rintro e w6 ⟨v, rfl, hv, hT6, hb6⟩
                         have hv2 := hv rfl
                         subst hv2)
            go_roundg (ls.length - (j + 1))
            case measure => omega
            case rel => exact ⟨j + 1, _, by omega, by go_num, hT6, hb6⟩
          · have e60 : decide ((j : Int) < 60) = false := decide_eq_false (by omega)
            clear HSt
            go_wp2_with fail
            go_roundg (ls.length - (j + 1))
            case measure => omega
            case rel => exact ⟨j + 1, _, by omega, by go_num, hT5, hb05⟩
        · obtain rfl : j = ls.length := by omega
          have HCl := Lib.hid (dclone_any G K M m d wr hT.ours)
          go_wp2_with (first
            | (go_at_call 20; refine HCl.out.mono ?_; rintro e w7 ⟨g2, k2, m2, c2, rfl, hd7, gg2, gk2, gm2, hb7⟩
               have HRd := Lib.hid (fun w8 (hb8 : Below w7.heap.size w7 w8) => read_any G K M m d i w8 ((hT.below hb7).below hb8).ours)
               have HRr := Lib.hid (fun w8 (hb8 : Below w7.heap.size w7 w8) => rread_any g a b c x y z d i w8 ((hT.below hb7).below hb8).its hT.ok2.most))
            | (go_at_call 13; refine (HRd.out _ (Below.refl _ _)).mono ?_; rintro e w8 ⟨v8, rfl, hv8, hb8⟩)
            | (go_at_call 21; refine (HRr.out _ hb8).mono ?_; rintro e w9 ⟨rfl, rfl⟩))
          refine (write_lit g2 k2 m2 c2 d 0 [120] w8 (hd7.below hb8) (by decide) _ rfl _ _ 1 rfl).mono ?_
          rintro e w9 ⟨rfl, hd9, ho9⟩
          have hz9 := hd9.lt
          have hb9 : Below w9.heap.size w9 (w9.alloc (.cells #[.int .i64 0] 3)) := (Below.refl _ _).alloc (Nat.le_refl _) _
          have HCr := Lib.hid (crash_any g2 k2 m2 c2 _ (some ⟨w9.heap.size, 0, none⟩) 1 [0] (-1) 0 _ (hd9.below hb9) (lies_alloc w9 [.int .i64 0] 3 (0, 0)) (fun p hp _ hm => by injection hp with hp; subst hp; simp at hm; omega) (by decide))
          clear HRd HRr HCl
          go_wp2_with (go_at_call 12; refine HCr.out.mono ?_; rintro e w10 ⟨rfl, hd10, ho10⟩
                       have hs7 := hb7.size
                       have hs8 := hb8.size
                       have hs9 := ho9.size
                       have hball : Below wr.heap.size wr w10 := ((hb7.trans (hb8.mono hs7)).trans (ho9.below (B := wr.heap.size) (fun i h => by simp at h; omega) (by omega))).trans ((hb9.mono (by omega)).trans (ho10.below (B := wr.heap.size) (fun i h => by simp at h; omega) (by simp; omega)))
                       have HSa := Lib.hid (same_any G K M m g a b c x y z d w10 (hT.below hball)))
          clear HCr
          go_wp2_with (first
            | (go_at_call 22; refine HSa.out.mono ?_; rintro e w11 ⟨rfl, hb11⟩)
            | (go_at_call 15; refine (HAw.out _).mono ?_; rintro e w12 ⟨rfl, hb12⟩))
          go_returns
          exact ⟨rfl, hb.trans ((hball.trans ((hb11.trans (hb12.mono hb11.size)).mono hball.size)).mono hb.size)⟩
/-- THE WALK. -/
theorem plays_walk (n : Int) (L : Option Addr) (cl : Nat) (ls : List Laid) (i : Int) (w : World) (hn : (Lit.int .i64 n).wf = true) (hL : Lies w L (ls.flatMap dk)) (hI : ∀ x ∈ ls, x.In w) (hl : ls.length ≤ 9223372036854775807) (hi : (Lit.int .i64 i).wf = true) :
    Calls Try.prog 6 #[.int .i64 n, .slice L ls.length cl, .int .i64 i] w fun e w' => e = .returned (.bool true) ∧ Below w.heap.size w w' := by
  by_cases h1 : n < 1 ∨ 4096 < n
  · exact plays_not n i L cl ls w h1
  · by_cases h2 : 50 < n
    · exact plays_any n i 50 L cl ls w (by decide) (by decide) (.inr ⟨rfl, h2, by omega⟩) hL hI hl
    · exact plays_any n i n.toNat L cl ls w (by omega) (by omega) (.inl (by omega)) hL hI hl
end Go.Proofs.Ytjfjeajbekhmdaa
