/- JournalAny: the walk. -/
import Derived.Test.YtjfpanamkkdebaaMxJsG
import Derived.Test.YtjfpanamkkdebaaMxJpM
namespace Go.Proofs.Ytjfpanamkkdebaa
open Go.RowKit
set_option linter.unusedVariables false
set_option linter.unusedSimpArgs false
theorem Free.wrote {d : Dsk} (h : Free d) (i : Int) (b : List UInt8) : Free (d.wrote i b) ∧ (d.wrote i b).kept.length = d.kept.length := by
  have hs : d.stops = false := by unfold Dsk.stops; rw [h.dead, h.bound]; rfl
  have ha : d.acted = d := by unfold Dsk.acted; rw [hs, h.bound]; rfl
  have hk : (d.wrote i b).kept = d.kept ∧ (d.wrote i b).dead = false ∧ (d.wrote i b).bound = false := by
    unfold Dsk.wrote
    split
    · exact ⟨rfl, h.dead, h.bound⟩
    · split
      · exact ⟨rfl, h.dead, h.bound⟩
      · rw [hs, if_neg (by decide), ha]
        exact ⟨rfl, h.dead, h.bound⟩
  exact ⟨⟨h.ok.wrote i b, by rw [hk.1]; exact h.n8, hk.2.1, hk.2.2⟩, by rw [hk.1]⟩
theorem Free.fresh {n : Nat} (h1 : 8 ≤ n) (h2 : n ≤ 4096) : Free (fresh n) := ⟨fresh_ok (by omega) h2, by simpa [Go.Proofs.Ytjfpanamkkdebaa.fresh] using h1, rfl, rfl⟩
theorem hasP_small {d : Dsk} (h : Free d) (hh : d.hasP ≠ []) : (d.hasP.headD []).length ≤ 262144 ∧ (∀ y ∈ d.hasP.tail, y.length ≤ 262144) ∧ d.hasP.tail.length ≤ 1000000 := by
  cases hp : d.hasP with
  | nil => exact absurd hp hh
  | cons s rs =>
    have hlen := d.hasP_len s rs hp
    have hsl := d.stream_le (d.foundS 2).hf (d.foundS 2).ep d.room 0
    have hm := d.room_le h.ok.most
    have hal := allP_len s rs
    exact ⟨hlen.2.1, hlen.2.2, by show rs.length ≤ _; omega⟩
set_option maxRecDepth 100000 in
set_option maxHeartbeats 6400000 in
theorem jany_walk (n : Int) (Ls : Option Addr) (cl : Nat) (ls : List RSl) (Az : Option Addr) (cz : Nat) (zs : List Int) (w : World) (hn : (Lit.int .i64 n).wf = true)
    (hL : Lies w Ls (ls.flatMap fun r => [r.v])) (hI : ∀ x ∈ ls, x.In w) (hll : ls.length ≤ 9223372036854775807)
    (hz : Lies w Az (zs.map (Value.int .i64))) (hz0 : Az = none → cz = 0) (hzc : zs.length ≤ cz) (hzm : zs.length * 8 ≤ 140737488351232) (hzw : ∀ z ∈ zs, (Lit.int .i64 z).wf = true) :
    Calls Try.prog 3 #[.int .i64 n, .slice Ls ls.length cl, .slice Az zs.length cz] w fun e w' => e = .returned (.bool true) ∧ Below w.heap.size w w' := by
  obtain ⟨N6, hN6, hN60⟩ := mod_nat n 20 20 rfl (by decide)
  obtain ⟨N, hN⟩ : ∃ N : Nat, 8 + (N6 : Int) = (N : Int) := ⟨8 + N6, by omega⟩
  have hN8 : 8 ≤ N := by omega
  have hNm : N ≤ 27 := by omega
  have HNw := Lib.hid (new_any N w (by omega) (by omega))
  have HLs := Lib.hid hL
  have HI := Lib.hid hI
  have HZ := Lib.hid hz
  have HAw := Lib.hid (fun w2 => jawake_any w2)
  clear hL hI hz hn hzw
  go_enter Try.func3, Try.ntmps3
  go_wp2_with fail
  refine HNw.out.mono ?_
  rintro e w1 ⟨g, k, m, rfl, hd1, hb1, g1, g2, g3⟩
  have H1 := Lib.hid (⟨_, hd1, Free.fresh hN8 (by omega), by simp [fresh], hb1⟩ : ∃ d, DkAt w1 g k m N d ∧ Free d ∧ d.kept.length = N ∧ Below w.heap.size w w1)
  have HG : Hid (∀ i ∈ [g, k, m], w.heap.size ≤ i) := fun i hi => by simp at hi; omega
  clear hd1 hb1 g1 g2 g3 HNw
  go_wp2_with fail
  go_loopg [25] ls.length (fun rr i wr => ∃ j : Nat, j + rr = ls.length ∧ i = .int .i64 j ∧ ∃ d, DkAt wr g k m N d ∧ Free d ∧ d.kept.length = N ∧ Below w.heap.size w wr)
  case atStart => exact ⟨0, by omega, rfl, H1.out⟩
  case round =>
    clear H1
    obtain ⟨j, hj, rfl, d, hd, hf, hdl, hbw⟩ := hrel
    by_cases hjl : j < ls.length
    · obtain ⟨p0, rfl, hcell⟩ := flat_get (f := fun r : RSl => [r.v]) (n := 1) (fun _ => rfl) (by decide) (HLs.out.below hbw) j hjl
      have hk := HI.out _ (List.getElem_mem hjl)
      generalize ls[j] = kx at hcell hk
      obtain ⟨kA, kc, kb⟩ := kx
      have hcv := hcell 0 _ rfl
      rw [Addr.add_zero', Nat.mul_one] at hcv
      unfold RSl.v at hcv
      dsimp only at hcv
      have HK := Lib.hid hk
      have HD := Lib.hid (⟨hd, hf, hdl, hbw⟩ : _ ∧ _ ∧ _ ∧ _)
      clear hcell hk hd hf hdl hbw
      have hj1 : decide ((j : Int) < (ls.length : Int)) = true := decide_eq_true (by omega)
      have hj2 : (j : Int) < (ls.length : Int) := by omega
      have hj0 : (0 : Int) ≤ (j : Int) := by omega
      by_cases h30 : j < 30
      · have e30 : decide ((j : Int) < 30) = true := decide_eq_true (by omega)
        by_cases hzl : j < zs.length
        · have ez : decide ((j : Int) < (zs.length : Int)) = true := decide_eq_true (by omega)
          have ez2 : (j : Int) < (zs.length : Int) := by omega
          obtain ⟨hd, hf, hdl, hbw⟩ := HD.out
          have hdr : Below wr.heap.size wr wr.drew := (Below.refl _ _).drew
          obtain ⟨a0, rfl, hza⟩ := ((HZ.out.below hbw).below hdr).at (k := j) (by rw [List.length_map]; exact hzl)
          rw [List.getElem_map] at hza
          generalize zs[j] = z at hza
          obtain ⟨N1, hN1⟩ : ∃ N1 : Nat, (N : Int) + 1 = (N1 : Int) := ⟨N + 1, by omega⟩
          obtain ⟨M, hM, hMN⟩ := mod_nat z N1 N1 rfl (by omega)
          have w1' : IntKind.i64.wrap ((N : Int) + 1) = (N1 : Int) := by rw [hN1]; exact IntWalk.i64_in _ (by omega)
          have w2' : IntKind.u64.wrap (N1 : Int) = (N1 : Int) := by rw [IntKind.wrap_u64]; omega
          have w3' : IntKind.i64.wrap (M : Int) = (M : Int) := IntWalk.i64_in _ (by omega)
          have w4' : ¬ ((N1 : Int) = 0) := by omega
          have w5' : ((N1 : Int) == 0) = false := by rw [beq_eq_false_iff_ne]; omega
          have w7' : ¬ N1 = 0 := by omega
          have w8' : (N1 == 0) = false := by rw [beq_eq_false_iff_ne]; omega
          have w6' : IntKind.i64.wrap (N1 : Int) = (N1 : Int) := IntWalk.i64_in _ (by omega)
          obtain ⟨q, hq1, hq5, hq0, hq3, hq2, hqM⟩ := cut_len kc kb 128 128 rfl HK.out.cc
          obtain ⟨b2, hb2⟩ : ∃ b2, kb.take 128 = b2 := ⟨_, rfl⟩
          rw [hb2] at hq2
          have hrb : RB wr.drew kA b2 := by rw [← hb2]; exact ((HK.out.rb.below hbw).below hdr).takeN 128
          have HSz := Lib.hid (size_any g k m N d wr.drew (hd.below hdr))
          rw [hdl] at HSz
          have HWr := Lib.hid (write_any g k m N d (M : Int) kA kc b2 wr.drew (hd.below hdr) hrb (fun a e hne => by have h1 := lies_old HK.out.rb (by intro e2; apply hne; rw [← hb2]; simp at e2; rw [e2]; rfl) a e; have h2 := HG.out g (by simp); omega) (by omega))
          rw [← hq2] at HWr
          have HD2 := Lib.hid (⟨hf, hdl, hbw.trans (hdr.mono hbw.size), Nat.le_trans hbw.size hdr.size⟩ : _ ∧ _ ∧ _ ∧ _)
          have HKp : Hid (∀ w2, Only wr.drew w2 [g, m] → w2.cell? (a0.add j) = some (.int .i64 z)) := fun w2 ho => by
            have h1 := lies_old HZ.out (by intro e; have := congrArg List.length e; rw [List.length_map, List.length_nil] at this; omega) a0 rfl
            have hb := ho.below (B := w.heap.size) (fun i hi => HG.out i (by simp at hi ⊢; rcases hi with h | h <;> simp [h])) (Nat.le_trans hbw.size hdr.size)
            have h2 : (a0.add j).block < w.heap.size := by rw [add_blk]; exact h1
            have h3 := ((hbw.trans (hdr.mono hbw.size)).cell h2).symm.trans hza
            rw [((hbw.trans (hdr.mono hbw.size)).trans hb).cell h2]
            exact h3
          clear hd hf hdl hbw hdr hrb HD hb2 hq2
          go_wp2_with fail
          go_region_held3 (fun w' => w'.cell? (a0.add j) = some (.int .i64 z)) (first | exact hza | exact hza2) (first
            | (go_at_call 11; refine HSz.out.mono ?_; rintro e w2 ⟨rfl, rfl⟩)
            | (go_at_call 10; refine HWr.out.mono ?_; rintro e w2 ⟨rfl, hd2, ho2⟩; have hza2 := HKp.out w2 ho2))
          all_goals
            go_wp2_with fail
            go_roundg (ls.length - (j + 1))
            case measure => omega
            case rel =>
              obtain ⟨hf, hdl, hbw, hsz⟩ := HD2.out
              have hfw := hf.wrote (M : Int) b2
              exact ⟨j + 1, by omega, by go_num, _, hd2, hfw.1, hfw.2.trans hdl, hbw.trans (ho2.below (fun i hi => HG.out i (by simp at hi ⊢; rcases hi with h | h <;> simp [h])) hsz)⟩
        · have ez : decide ((j : Int) < (zs.length : Int)) = false := decide_eq_false (by omega)
          go_wp2_with fail
          go_roundg (ls.length - (j + 1))
          case measure => omega
          case rel => exact ⟨j + 1, by omega, by go_num, d, HD.out⟩
      · have e30 : decide ((j : Int) < 30) = false := decide_eq_false (by omega)
        go_wp2_with fail
        go_roundg (ls.length - (j + 1))
        case measure => omega
        case rel => exact ⟨j + 1, by omega, by go_num, d, HD.out⟩
    · obtain rfl : j = ls.length := by omega
      have hj1 : decide ((ls.length : Int) < (ls.length : Int)) = false := decide_eq_false (by omega)
      have HOp := Lib.hid (open_log g k m N d wr hd)
      have HD := Lib.hid (⟨hf, hbw⟩ : _ ∧ _)
      clear hd hf hdl hbw
      go_wp2_with fail
      refine HOp.out.mono ?_
      rintro e w2 ⟨pv, rfl, hd2, ho2, h2⟩
      have hb2 : Below w.heap.size w w2 := HD.out.2.trans (ho2.below HG.out HD.out.2.size)
      by_cases he : (openP d).e = 0
      · rcases h2 with ⟨h2, _⟩ | ⟨_, x, q, rfl, hx, hjx, hne, _⟩
        · exact absurd he h2
        obtain ⟨t1, t2, t3, t4⟩ := open_twice HD.out.1 he
        have HOp2 := Lib.hid (open_log g k m N (openP d).d w2 hd2)
        have hsm := hasP_small HD.out.1 hne
        have HS : Hid ((openLg d).snap = d.hasP.headD [] ∧ (openLg d).recs = d.hasP.tail) := ⟨rfl, rfl⟩
        have HS2 : Hid ((openLg (openP d).d).snap = d.hasP.headD [] ∧ (openLg (openP d).d).recs = d.hasP.tail) := by
          have h1 : (openLg (openP d).d).snap = (openP d).d.hasP.headD [] ∧ (openLg (openP d).d).recs = (openP d).d.hasP.tail := ⟨rfl, rfl⟩
          rw [t2] at h1
          exact h1
        rw [he]
        obtain ⟨E, hE⟩ : ∃ E, (openP (openP d).d).e = E := ⟨_, rfl⟩
        rw [hE] at HOp2 t1
        have H2 := Lib.hid (⟨hjx, hb2, hsm, hd2⟩ : _ ∧ _ ∧ _ ∧ _)
        clear HOp hd2 ho2 hjx hb2 hsm hE t2 t3 t4 hne he
        go_wp2_with fail
        refine HOp2.out.mono ?_
        rintro e w3 ⟨pv3, rfl, hd3, ho3, h3⟩
        have hb3 : Below w.heap.size w w3 := H2.out.2.1.trans (ho3.below HG.out H2.out.2.1.size)
        rcases t1 with rfl | rfl
        · rcases h3 with ⟨h3, _⟩ | ⟨_, y, qy, rfl, hy, hjy, _, _⟩
          · exact absurd rfl h3
          have hjx3 := H2.out.1.dev hd3 ho3
          obtain ⟨s1, s2, s3⟩ := H2.out.2.2.1
          obtain ⟨SN, hSN⟩ : ∃ SN, d.hasP.headD [] = SN := ⟨_, rfl⟩
          obtain ⟨RC, hRC⟩ : ∃ RC, d.hasP.tail = RC := ⟨_, rfl⟩
          obtain ⟨x1, x2⟩ := HS.out
          obtain ⟨y1, y2⟩ := HS2.out
          rw [hSN] at s1 x1 y1
          rw [hRC] at s2 s3 x2 y2
          obtain ⟨Lx, hLx⟩ : ∃ Lx, { openLg d with d := (openP (openP d).d).d } = Lx := ⟨_, rfl⟩
          obtain ⟨Ly, hLy⟩ : ∃ Ly, openLg (openP d).d = Ly := ⟨_, rfl⟩
          have x1' : Lx.snap = SN := by rw [← hLx]; exact x1
          have x2' : Lx.recs = RC := by rw [← hLx]; exact x2
          rw [hLx] at hjx3
          rw [hLy] at hjy y1 y2
          have HSx := Lib.hid (snapshot_any x g k m N q Lx w3 hjx3 (by rw [x1']; omega))
          have HSy := Lib.hid (fun w8 (hb : Below w3.heap.size w3 w8) => snapshot_any y g k m N qy Ly w8 (hjy.below hb) (by rw [y1]; omega))
          have HRx := Lib.hid (fun w8 (hb : Below w3.heap.size w3 w8) => records_any x g k m N q Lx w8 (hjx3.below hb) (fun z hz => by rw [x2'] at hz; have := s2 z hz; omega) (by rw [x2']; exact s3))
          have HRy := Lib.hid (fun w8 (hb : Below w3.heap.size w3 w8) => records_any y g k m N qy Ly w8 (hjy.below hb) (fun z hz => by rw [y2] at hz; have := s2 z hz; omega) (by rw [y2]; exact s3))
          rw [x1'] at HSx
          rw [y1] at HSy
          rw [x2'] at HRx
          rw [y2] at HRy
          have HEnd := Lib.hid hb3
          clear hjx3 hjy hd3 ho3 HOp2 H2 HS HS2 x1 x2 y1 y2 x1' x2' hLx hLy hSN hRC hb3 hy hx
          go_wp2_with fail
          refine HSx.out.mono ?_
          rintro e w13 ⟨v13, rfl, ho13, hb13⟩
          obtain ⟨A13, c13, rfl, -⟩ := OB.form ho13
          have HB13 := Lib.hid hb13
          have HO13 := Lib.hid (RB.of_own ho13)
          clear ho13 hb13
          go_wp2_with fail
          refine (HSy.out w13 HB13.out).mono ?_
          rintro e w14 ⟨v14, rfl, ho14, hb14⟩
          obtain ⟨A14, c14, rfl, -⟩ := OB.form ho14
          have HEq := Lib.hid (equal_any A13 A14 c13 c14 SN SN w14 (Lies.below HO13.out hb14) (RB.of_own ho14))
          rw [beq_self_eq_true] at HEq
          have HB14 := Lib.hid (HB13.out.trans (hb14.mono HB13.out.size))
          clear ho14 hb14 HO13
          go_wp2_with fail
          refine HEq.out.mono ?_
          rintro e w15 ⟨rfl, rfl⟩
          go_wp2_with fail
          refine (HRx.out w14 HB14.out).mono ?_
          rintro e w16 ⟨v16, r16, rfl, hw16, ho16, hq16, hb16⟩
          have hR16 : RecsAt w16 v16 r16 := ⟨RowFrom.of_own hw16, fun z hz => OB.mono (ho16 z hz) (Nat.zero_le _)⟩
          have HR16 := Lib.hid (⟨hR16, hq16⟩ : _ ∧ _)
          have HB16 := Lib.hid (HB14.out.trans (hb16.mono HB14.out.size))
          clear hw16 ho16 hq16 hb16 hR16
          go_wp2_with fail
          refine (HRy.out w16 HB16.out).mono ?_
          rintro e w17 ⟨v17, r17, rfl, hw17, ho17, hq17, hb17⟩
          have hR17 : RecsAt w17 v17 r17 := ⟨RowFrom.of_own hw17, fun z hz => OB.mono (ho17 z hz) (Nat.zero_le _)⟩
          have hsm := same_any v16 v17 r16 r17 w17 (HR16.out.1.below hb17) hR17 (by have := congrArg List.length HR16.out.2; rw [List.length_map] at this; omega) (by have := congrArg List.length hq17; rw [List.length_map] at this; omega)
          rw [HR16.out.2, hq17, decide_eq_true rfl] at hsm
          have HSm := Lib.hid hsm
          have HB17 := Lib.hid (HB16.out.trans (hb17.mono HB16.out.size))
          clear hw17 ho17 hq17 hb17 hR17 hsm
          go_wp2_with (first
            | (go_at_call 16; refine HSm.out.mono ?_; rintro e w18 ⟨rfl, hb18⟩)
            | (go_at_call 13; refine (HAw.out _).mono ?_; rintro e w19 ⟨rfl, hb19⟩))
          go_returns
          exact ⟨rfl, HEnd.out.trans ((HB17.out.trans ((hb18.trans (hb19.mono hb18.size)).mono HB17.out.size)).mono HEnd.out.size)⟩
        · have HEnd := Lib.hid hb3
          clear hd3 ho3 HOp2 H2 HS HS2 hb3 h3
          go_wp2_with (go_at_call 13; refine (HAw.out _).mono ?_; rintro e w19 ⟨rfl, hb19⟩)
          go_returns
          exact ⟨rfl, HEnd.out.trans (hb19.mono HEnd.out.size)⟩
      · rcases h2 with ⟨_, rfl⟩ | ⟨h2, _⟩
        rotate_left
        · exact absurd h2 he
        obtain ⟨E, hE⟩ : ∃ E, (openP d).e = E := ⟨_, rfl⟩
        rw [hE] at he
        rw [hE]
        have he1 : ((E : Int) == 0) = false := by rw [beq_eq_false_iff_ne]; omega
        have he2 : ((E : Int) != 0) = true := by rw [bne_iff_ne]; omega
        have he3 : ¬ ((E : Int) = 0) := by omega
        have HEnd := Lib.hid hb2
        clear hd2 ho2 hb2 hE he HOp
        go_wp2_with (go_at_call 13; refine (HAw.out _).mono ?_; rintro e w19 ⟨rfl, hb19⟩)
        go_returns
        exact ⟨rfl, HEnd.out.trans (hb19.mono HEnd.out.size)⟩
end Go.Proofs.Ytjfpanamkkdebaa
