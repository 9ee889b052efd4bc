/- A fuse: the walk. -/
import Derived.Test.YtjfjeajbekhmdaaPgK
import Derived.Test.YtjfjeajbekhmdaaRow
namespace Go.Proofs.Ytjfjeajbekhmdaa
open Go.RowKit Go.Maps
set_option linter.unusedVariables false
set_option linter.unusedSimpArgs false
/-- A device of four pages that goes on for so many acts. -/
structure Fus (d : Dsk) (n : Nat) : Prop where
  b : d.bound = true
  l : d.left = n
  a : d.dead = false
  k : d.kept.length = 4
theorem Fus.stops {d : Dsk} {n : Nat} (h : Fus d (n + 1)) : d.stops = false := by simp [Dsk.stops, h.b, h.l, h.a]
theorem Fus.actE {d : Dsk} {n : Nat} (h : Fus d (n + 1)) : d.actE = 0 := by simp [Dsk.actE, h.stops]
theorem Fus.synced {d : Dsk} {n : Nat} (h : Fus d (n + 1)) : Fus d.synced n := by
  have := h.stops
  constructor <;> simp [Dsk.synced, Dsk.acted, this, h.b, h.l, h.a, h.k]
theorem Fus.askE {d : Dsk} {n : Nat} (h : Fus d n) {i : Nat} (hi : i < 4) : d.askE i = 0 := by
  unfold Dsk.askE
  rw [if_pos ⟨by omega, by rw [h.k]; omega⟩]
theorem Fus.writeE {d : Dsk} {n : Nat} (h : Fus d (n + 1)) {i : Nat} (hi : i < 4) : d.writeE i [1] = 0 := by
  simp [Dsk.writeE, h.askE hi, h.actE]
theorem Fus.wrote {d : Dsk} {n : Nat} (h : Fus d (n + 1)) {i : Nat} (hi : i < 4) : Fus (d.wrote i [1]) n := by
  have := h.stops
  constructor <;> simp [Dsk.wrote, h.askE hi, Dsk.acted, this, h.b, h.l, h.a, h.k]
theorem fus_start (n : Nat) : Fus ((fresh 4).fused n) n := by
  constructor <;> simp [Dsk.fused, fresh]
/-- One that goes on no more. -/
structure Fin (d : Dsk) : Prop where
  b : d.bound = true
  l : d.left = 0
  k : d.kept.length = 4
theorem Fus.fin {d : Dsk} (h : Fus d 0) : Fin d := ⟨h.b, h.l, h.k⟩
theorem Fin.stops {d : Dsk} (h : Fin d) : d.stops = true := by simp [Dsk.stops, h.b, h.l]
theorem Fin.actE {d : Dsk} (h : Fin d) : d.actE = 9 := by simp [Dsk.actE, h.stops]
theorem Fin.dead {d : Dsk} (h : Fin d) : d.synced.dead = true := by simp [Dsk.synced, Dsk.acted, h.stops]
theorem Fin.synced {d : Dsk} (h : Fin d) : Fin d.synced := by
  have := h.stops
  constructor <;> simp [Dsk.synced, Dsk.acted, this, h.b, h.l, h.k]
theorem Fin.fuseE {d : Dsk} (h : Fin d) : d.synced.fuseE = 9 := by simp [Dsk.fuseE, h.dead]
theorem Fin.fused {d : Dsk} (h : Fin d) (n : Int) : d.synced.fused n = d.synced := by simp [Dsk.fused, h.dead]
theorem crashed_actE (d : Dsk) (keep : List Int) (torn cut : Int) : (d.crashed keep torn cut).actE = 0 := by simp [Dsk.actE, Dsk.stops, Dsk.crashed]
set_option maxHeartbeats 3200000 in
theorem fuseLaw_any (n more : Nat) (hn : n < 256) (hm : more < 256) (w : World) :
    Calls Try.prog 4 #[.int .u8 n, .int .u8 more] w fun e w' => e = .returned (.bool true) ∧ Below w.heap.size w w' := by
  have HN := Lib.hid (new_any 4 w (by decide) (by decide))
  obtain ⟨q, hq4, hmo⟩ : ∃ q : Nat, q < 4 ∧ (more : Int).tmod 4 = (q : Int) := ⟨more % 4, Nat.mod_lt _ (by decide), by rw [Int.tmod_eq_emod_of_nonneg (by omega)]; omega⟩
  go_enter Try.func4, Try.ntmps4
  go_wp2_with (go_at_call 7; refine HN.out.mono ?_; rintro e w1 ⟨g, k, m, rfl, hd1, hb1, g1, g2, g3⟩)
  refine (fuse_any g k m 4 (fresh 4) n w1 hd1 (by omega) (by omega)).mono ?_
  rintro e w2 ⟨rfl, hd2, ho2⟩
  rw [show (fresh 4).fuseE = 0 from rfl]
  have hf2 := fus_start n
  generalize (fresh 4).fused n = d2 at hd2 hf2
  have ho2 : Only w1 w2 [g, k, m] := ho2.mono (fun i h => by simp at h; simp [h])
  clear hd1
  clear HN
  go_wp2_with fail
  go_loopg [19] n (fun r i wr => ∃ (j : Nat) (d : Dsk), j + r = n ∧ i = .int .i64 j ∧ DkAt wr g k m 4 d ∧ Fus d r ∧ Only w1 wr [g, k, m])
  case atStart => exact ⟨0, d2, by omega, rfl, hd2, hf2, ho2⟩
  case round =>
    clear hd2 hf2 ho2
    obtain ⟨j, d, hj, rfl, hd, hf, ho⟩ := hrel
    by_cases hjn : j < n
    · obtain ⟨r, rfl⟩ : ∃ r, gk = r + 1 := ⟨gk - 1, by omega⟩
      have hj1 : decide ((j : Int) < (n : Int)) = true := decide_eq_true (by omega)
      by_cases h2 : j % 3 = 2
      · have hr3 : (j : Int).tmod 3 = 2 := by rw [Int.tmod_eq_emod_of_nonneg (by omega)]; omega
        have HSy := Lib.hid (sync_any g k m 4 d wr hd)
        rw [hf.actE] at HSy
        have hf' := hf.synced
        generalize d.synced = d3 at HSy hf'
        clear hd hf
        go_wp2_with (go_at_call 9; refine HSy.out.mono ?_; rintro e w3 ⟨rfl, hd3, ho3⟩)
        go_roundg r
        case measure => omega
        case rel => exact ⟨j + 1, d3, by omega, by go_num, hd3, hf', ho.trans ho3⟩
      · obtain ⟨q, hq4, hr4⟩ : ∃ q : Nat, q < 4 ∧ (j : Int).tmod 4 = (q : Int) := ⟨j % 4, Nat.mod_lt _ (by decide), by rw [Int.tmod_eq_emod_of_nonneg (by omega)]; omega⟩
        have hw1 := hf.writeE hq4
        have hf' := hf.wrote hq4
        have HW := Lib.hid (fun f => write_lit g k m 4 d q [1] wr hd (by decide) _ rfl 5 f 1 rfl)
        rw [hw1] at HW
        generalize d.wrote q [1] = d3 at HW hf'
        clear hd hf hw1
        have h01 : j % 3 = 0 ∨ j % 3 = 1 := by omega
        rcases h01 with h01 | h01
        · have hr3 : (j : Int).tmod 3 = 0 := by rw [Int.tmod_eq_emod_of_nonneg (by omega)]; omega
          go_wp2_with (go_at_call 8; refine (HW.out _).mono ?_; rintro e w3 ⟨rfl, hd3, ho3⟩)
          go_roundg r
          case measure => omega
          case rel => exact ⟨j + 1, d3, by omega, by go_num, hd3, hf', ho.trans ho3⟩
        · have hr3 : (j : Int).tmod 3 = 1 := by rw [Int.tmod_eq_emod_of_nonneg (by omega)]; omega
          go_wp2_with (go_at_call 8; refine (HW.out _).mono ?_; rintro e w3 ⟨rfl, hd3, ho3⟩)
          go_roundg r
          case measure => omega
          case rel => exact ⟨j + 1, d3, by omega, by go_num, hd3, hf', ho.trans ho3⟩
    · obtain rfl : j = n := by omega
      obtain rfl : gk = 0 := by omega
      have hfin := hf.fin
      clear hf
      go_wp2_with fail
      go_loopg [48] (q + 1) (fun r i wr => ∃ (j : Nat) (d : Dsk), j + r = q + 1 ∧ i = .int .i64 j ∧ DkAt wr g k m 4 d ∧ Fin d ∧ Only w1 wr [g, k, m])
      case atStart => exact ⟨0, d, by omega, rfl, hd, hfin, ho⟩
      case round =>
        clear hd hfin ho
        obtain ⟨x, d, hx, rfl, hd, hf, ho⟩ := hrel
        by_cases hxq : x < q + 1
        · have hj1 : decide ((x : Int) < 1 + (q : Int)) = true := decide_eq_true (by omega)
          have HSy := Lib.hid (sync_any g k m 4 d _ hd)
          rw [hf.actE] at HSy
          have hf' := hf.synced
          have hfd := hf.dead
          have hfe := hf.fuseE
          have hff := hf.fused (-1)
          generalize d.synced = d3 at HSy hf' hfd hfe hff
          clear hd hf
          go_wp2_with (first
            | (go_at_call 9; refine HSy.out.mono ?_; rintro e w3 ⟨rfl, hd3, ho3⟩
               have HDe := Lib.hid (dead_any g k m 4 d3 w3 hd3)
               rw [hfd] at HDe
               have HFu := Lib.hid (fuse_any g k m 4 d3 (-1) w3 hd3 (by decide) (by decide))
               rw [hfe, hff] at HFu)
            | (go_at_call 17; refine HDe.out.mono ?_; rintro e w4 ⟨rfl, rfl⟩)
            | (go_at_call 16; refine HFu.out.mono ?_; rintro e w5 ⟨rfl, hd5, ho5⟩))
          go_roundg (q + 1 - (x + 1))
          case measure => omega
          case rel => exact ⟨x + 1, d3, by omega, by go_num, hd5, hf', (ho.trans ho3).trans (ho5.mono (fun i h => by simp at h; simp [h]))⟩
        · obtain rfl : x = q + 1 := by omega
          have hj1 : decide (((q + 1 : Nat) : Int) < 1 + (q : Int)) = false := decide_eq_false (by omega)
          have hj2 : decide ((q : Int) + 1 < 1 + (q : Int)) = false := decide_eq_false (by omega)
          have HCr := Lib.hid (crash_any g k m 4 d none 0 [] 0 0 _ hd (nil_lies _) (fun a ha => by cases ha) (by decide))
          have hca := crashed_actE d [] 0 0
          have hcd : (d.crashed [] 0 0).dead = false := rfl
          generalize d.crashed [] 0 0 = d9 at HCr hca hcd
          clear hd hf
          go_wp2_with (first
            | (go_at_call 12; refine HCr.out.mono ?_; rintro e w3 ⟨rfl, hd3, ho3⟩
               have HDe := Lib.hid (dead_any g k m 4 d9 w3 hd3)
               rw [hcd] at HDe
               have HSy := Lib.hid (sync_any g k m 4 d9 w3 hd3)
               rw [hca] at HSy)
            | (go_at_call 17; refine HDe.out.mono ?_; rintro e w4 ⟨rfl, rfl⟩)
            | (go_at_call 9; refine HSy.out.mono ?_; rintro e w5 ⟨rfl, hd5, ho5⟩
               have HAw := Lib.hid (awake_any w5))
            | (go_at_call 15; refine HAw.out.mono ?_; rintro e w6 ⟨rfl, hb6⟩))
          go_returns
          have hall := ((ho.trans ho3).trans ho5).alike hb6
          exact ⟨rfl, hb1.trans (hall.below (B := w.heap.size) (fun i h => by simp at h; rcases h with h | h | h <;> omega) hb1.size)⟩
theorem fuse_walk (a b : Int) (w : World) (ha : (Lit.int .u8 a).wf = true) (hb : (Lit.int .u8 b).wf = true) :
    Calls Try.prog 4 #[.int .u8 a, .int .u8 b] w fun e w' => e = .returned (.bool true) ∧ Below w.heap.size w w' := by
  obtain ⟨a1, a2⟩ := wf_u8 ha
  obtain ⟨b1, b2⟩ := wf_u8 hb
  obtain ⟨n, rfl⟩ : ∃ n : Nat, a = (n : Int) := ⟨a.toNat, by omega⟩
  obtain ⟨x, rfl⟩ : ∃ x : Nat, b = (x : Int) := ⟨b.toNat, by omega⟩
  exact fuseLaw_any n x (by omega) (by omega) w
end Go.Proofs.Ytjfjeajbekhmdaa
