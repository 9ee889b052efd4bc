/- Postings encoded by the document: the walk of Encode. -/
import Derived.Test.YtbeejmedekgjjaaPqD
import Derived.Test.YtbeejmedekgjjaaPoD
import Derived.Deep.RegionLaw
namespace Go.Proofs.Ytbeejmedekgjjaa
open Go.RowKit
set_option linter.unusedVariables false
set_option linter.unusedSimpArgs false
theorem rencode_no (A : Option Addr) (c : Nat) (ls : List LPost) (w : World) (h : Posts w A c ls) (hn : ∀ p ∈ ls, p.spots.length ≤ 17592186044415) (hk : chkB (ls.map LPost.p) = false) :
    Calls Try.prog 9 #[.slice A ls.length c] w fun e w' => e = .returned (.tuple #[.slice none 0 0, .int .i64 1]) ∧ Below w.heap.size w w' := by
  have HC := rcheck_any A c ls w h hn
  rw [chkE_no hk] at HC
  have HC := Lib.hid HC
  clear h hk
  go_enter Try.func9, Try.ntmps9
  go_wp2_with (go_at_call 14; refine HC.out.mono ?_; rintro e w1 ⟨rfl, hb1⟩)
  go_returns
  exact ⟨rfl, hb1⟩
theorem drop_take_snoc {l : List Post} {j c : Nat} (hj : j < l.length) (hc : c ≤ j) : (l.take (j + 1)).drop c = (l.take j).drop c ++ [l[j]] := by
  rw [take_snoc hj, List.drop_append_of_le_length (by rw [List.length_take]; omega)]
theorem lastD_take_drop {l : List Post} {j c : Nat} (hc : c ≤ j) (d : Int) : lastD (lastD d (l.take c)) ((l.take j).drop c) = lastD d (l.take j) := by
  rw [← lastD_app]
  congr 1
  have : l.take c = (l.take j).take c := by rw [List.take_take, Nat.min_eq_left hc]
  rw [this, List.take_append_drop]
set_option maxRecDepth 100000 in
set_option maxHeartbeats 6400000 in
theorem rencode_ok (A : Option Addr) (c : Nat) (ls : List LPost) (w : World) (h : Posts w A c ls) (hn : ∀ p ∈ ls, p.spots.length ≤ 17592186044415) (hk : chkB (ls.map LPost.p) = true) :
    Calls Try.prog 9 #[.slice A ls.length c] w fun e w' => ∃ v, e = .returned (.tuple #[v, .int .i64 0]) ∧ OB w' w.heap.size v (encB (ls.map LPost.p)) ∧ Below w.heap.size w w' := by
  have HC := rcheck_any A c ls w h hn
  rw [chkE_ok hk] at HC
  have HC := Lib.hid HC
  have hlen : ls.length ≤ 65536 := by have := chkB_len hk; simpa using this
  have HFs := Lib.hid (chkFrom_fits _ _ hk).1
  have HLi := Lib.hid h.li
  have HIs := Lib.hid h.i
  have HE := Lib.hid (encB_runs (ls.map LPost.p))
  rw [List.length_map] at HE
  have HNs := Lib.hid (fun w' => rnum_any none 0 [] (ls.length : Int) w' (by decide) (by omega) (by simp) (Lies.nil _ _))
  rw [numNat_nat] at HNs
  have hl1 := numBytes_le ls.length
  generalize numBytes ls.length = X0 at HNs hl1 HE
  clear h hk
  go_enter Try.func9, Try.ntmps9
  go_wp2_with (first
    | (go_at_call 14; refine HC.out.mono ?_; rintro e w1 ⟨rfl, hb1⟩)
    | (go_at_call 24; refine (HNs.out _).mono ?_; rintro e w2 ⟨v2, rfl, hv2, hb2⟩))
  rw [List.nil_append] at hv2
  have hv2 := hv2.mono hb1.size
  have hb12 := hb1.trans (hb2.mono hb1.size)
  clear hb1 hb2 HC HNs
  go_loopg [4, 5, 6, 7, 20] ls.length (fun rr s4 s5 s6 s7 s20 wr => ∃ (j cc : Nat) (X Y : List UInt8) (la ah : Int), j + rr = ls.length ∧ s20 = .int .i64 j ∧ cc ≤ j ∧ j - cc < 4 ∧ (cc % 4 = 0 ∨ cc = ls.length) ∧ (j = ls.length → cc = ls.length) ∧ s5 = .int .i64 la ∧ s7 = .int .i64 ah ∧ la = lastD (-1) ((ls.map LPost.p).take j) ∧ ah = lastD (-1) ((ls.map LPost.p).take cc) ∧ -1 ≤ la ∧ la ≤ 65535 ∧ -1 ≤ ah ∧ ah ≤ 65535 ∧
      Y = runBytes ah (((ls.map LPost.p).take j).drop cc) ∧ X ++ runsB ah ((ls.map LPost.p).drop cc) = encB (ls.map LPost.p) ∧ X.length ≤ 9 + 9018 * cc ∧ Y.length ≤ 2250 * (j - cc) ∧ OB wr w.heap.size s4 X ∧ OB wr w.heap.size s6 Y ∧ Below w.heap.size w wr)
  case atStart => exact ⟨0, 0, X0, [], -1, -1, by omega, rfl, by omega, by omega, .inl rfl, by omega, rfl, rfl, rfl, rfl, by omega, by omega, by omega, by omega, rfl, by rw [HE.out]; rfl, by omega, by simp, hv2, World.ownsRow_nil _ _ _ _, hb12⟩
  case round =>
    clear hv2 hb12
    obtain ⟨j, cc, X, Y, la, ah, hj, rfl, hcj, hc4, hcm, hce, rfl, rfl, hla, hah, hla0, hla1, hah0, hah1, hY, hX, hXl, hYl, hv4, hv6, hb⟩ := hrel
    have HX := Lib.hid hX
    by_cases hjl : j < ls.length
    · have hj1 : decide ((j : Int) < (ls.length : Int)) = true := decide_eq_true (by omega)
      obtain ⟨a, rfl, hc⟩ := flat_get pk_length (by decide) (HLi.out.below hb) j hjl
      have hk := (HIs.out _ (List.getElem_mem hjl)).below hb
      have hft := HFs.out _ (List.mem_map_of_mem (List.getElem_mem hjl))
      have hjm : j < (ls.map LPost.p).length := by rw [List.length_map]; exact hjl
      have hT := drop_take_snoc hjm hcj
      rw [List.getElem_map] at hT
      have hla' : lastD (-1) ((ls.map LPost.p).take (j + 1)) = (LPost.p ls[j]).doc := by rw [take_snoc hjm, List.getElem_map, lastD_snoc]
      have hlx : lastD ah (((ls.map LPost.p).take j).drop cc) = la := by rw [hah, lastD_take_drop hcj, ← hla]
      have hY' : runBytes ah (((ls.map LPost.p).take (j + 1)).drop cc) = Y ++ postBytes la (LPost.p ls[j]) := by rw [hT, runBytes_snoc, ← hY, hlx]
      generalize ls[j] = p at hc hk hft hla' hY'
      obtain ⟨d, S, cS, sp⟩ := p
      have hF := fitsB_fits hft
      have d0 : 0 ≤ d := hF.d0
      have d1 : d < 65536 := hF.d1
      have n1 : sp.length ≤ 4 := by have := hF.n1; simpa [LPost.p] using this
      have HPl : Hid (∀ s ∈ sp, placesB s.l = true ∧ 1 ≤ s.f ∧ s.f ≤ 4) := fun s hs => ⟨hF.pl _ (List.mem_map_of_mem hs), hF.f _ (List.mem_map_of_mem hs)⟩
      have hpb := postBytes_le hF la
      have HPB := Lib.hid (show postBytes la (LPost.p ⟨d, S, cS, sp⟩) = numBytes (numNat (d - la - 1)) ++ (numBytes sp.length ++ (sp.map LSpot.p).flatMap spotBytes) from by unfold postBytes; simp [LPost.p])
      generalize postBytes la (LPost.p ⟨d, S, cS, sp⟩) = PB at hY' hpb HPB
      have HY' := Lib.hid hY'
      have HLa' : Hid (lastD (-1) ((ls.map LPost.p).take (j + 1)) = d) := hla'
      have HAh := Lib.hid hah
      unfold pk at hc
      simp only at hc
      have HC := Lib.hid hc
      have HCe := Lib.hid hce
      clear hX hla hah hY hT hla' hlx hY' hc hF hft hce
      have hb5 : Below wr.heap.size wr (wr.alloc (.cells #[.int .i64 d, .slice S sp.length cS] 40)) := (Below.refl _ _).alloc (Nat.le_refl _) _
      have x0 : (wr.alloc (.cells #[.int .i64 d, .slice S sp.length cS] 40)).cell? ⟨wr.heap.size, 0, none⟩ = some (.int .i64 d) := by go_cell
      have x1 : (wr.alloc (.cells #[.int .i64 d, .slice S sp.length cS] 40)).cell? ⟨wr.heap.size, 1, none⟩ = some (.slice S sp.length cS) := by go_cell
      have hN5 : wr.heap.size < (wr.alloc (.cells #[.int .i64 d, .slice S sp.length cS] 40)).heap.size := by simp
      have hkl := hk.li.below hb5
      have hks := fun s hs => (hk.s s hs).below hb5
      have HKl := Lib.hid hkl
      have HKs := Lib.hid hks
      have hb05 := hb.trans (hb5.mono hb.size)
      have hv45 := hv4.below hb5
      have hv65 := hv6.below hb5
      have hw1 : wrap64 (d - la) = d - la := by go_arith
      have hw2 : wrap64 (d - la - 1) = d - la - 1 := by go_arith
      have hw3 : IntKind.i64.wrap (d - la) = d - la := by go_arith
      have hw4 : IntKind.i64.wrap (d - la - 1) = d - la - 1 := by go_arith
      clear hkl hks hk hb hv4 hv6
      go_upto_region 10 with (refine wpList_load_any rfl 40 (.tmp 23) rfl _ rfl _ _ HC.out rfl rfl info_posting ?_)
      generalize wr.alloc (.cells #[.int .i64 d, .slice S sp.length cS] 40) = W5 at *
      generalize wr.heap.size = N5 at x0 x1 hN5 ⊢
      clear HC hb5
      obtain ⟨A6, c6, rfl, hc6, hn6⟩ := hv65.form
      have HN1 := Lib.hid (rnum_any A6 c6 Y (d - la - 1) W5 (by omega) (by omega) hn6 (RB.of_own hv65))
      have hl3 := numBytes_le (numNat (d - la - 1))
      generalize numBytes (numNat (d - la - 1)) = N1 at HN1 hl3 HPB
      clear hv65
      go_wp2_with fail
      refine HN1.out.mono ?_
      rintro e1 wa ⟨va, rfl, hva, hba⟩
      have x1a : wa.cell? ⟨N5, 1, none⟩ = some (.slice S sp.length cS) := by rw [hba.cell (p := ⟨N5, 1, none⟩) hN5]; exact x1
      have x0a : wa.cell? ⟨N5, 0, none⟩ = some (.int .i64 d) := by rw [hba.cell (p := ⟨N5, 0, none⟩) hN5]; exact x0
      have hNa : N5 < wa.heap.size := Nat.lt_of_lt_of_le hN5 hba.size
      obtain ⟨Aa, ca, rfl, hca, hna⟩ := hva.form
      have hYN : (Y ++ N1).length ≤ 140737488350000 := by rw [List.length_append]; omega
      have HN2 := Lib.hid (rnum_any Aa ca (Y ++ N1) (sp.length : Int) wa (by omega) (by omega) hna (RB.of_own hva))
      rw [numNat_nat] at HN2
      have hl4 := numBytes_le sp.length
      generalize numBytes sp.length = N2 at HN2 hl4 HPB
      have HB0 : Hid (Y ++ PB = (Y ++ N1 ++ N2) ++ (sp.map LSpot.p).flatMap spotBytes) := by show _ = _; rw [HPB.out]; simp
      have hYN2 : (Y ++ N1 ++ N2).length ≤ 9100 := by rw [List.length_append, List.length_append]; omega
      generalize Y ++ N1 ++ N2 = B0 at HN2 HB0 hYN2
      generalize (Y ++ N1).length = la1 at HN2 hca ⊢
      clear HN1 hva x0 x1
      go_wp2_with fail
      refine HN2.out.mono ?_
      rintro e2 wb ⟨vb2, rfl, hvb, hbb⟩
      have x1b : wb.cell? ⟨N5, 1, none⟩ = some (.slice S sp.length cS) := by rw [hbb.cell (p := ⟨N5, 1, none⟩) hNa]; exact x1a
      have x0b : wb.cell? ⟨N5, 0, none⟩ = some (.int .i64 d) := by rw [hbb.cell (p := ⟨N5, 0, none⟩) hNa]; exact x0a
      have hb5b : Below W5.heap.size W5 wb := hba.trans (hbb.mono hba.size)
      have hNb : N5 < wb.heap.size := Nat.lt_of_lt_of_le hNa hbb.size
      have hb0b := hb05.trans (hb5b.mono hb05.size)
      have hv4b := hv45.below hb5b
      have hvb0 := hvb.mono (Nat.le_trans hb05.size hba.size)
      have HKl := Lib.hid (HKl.out.below hb5b)
      have HKs := Lib.hid (fun s hs => (HKs.out s hs).below hb5b)
      clear HN2 hvb x1a x0a hba hbb hb5b hb05 hv45 hN5 hNa
      go_wp2_with fail
      go_loopg [6, 40] sp.length (fun r s6 i2 wr => ∃ k : Nat, k + r = sp.length ∧ i2 = .int .i64 k ∧ OB wr w.heap.size s6 (B0 ++ ((sp.take k).map LSpot.p).flatMap spotBytes) ∧ Below wb.heap.size wb wr)
      case atStart => exact ⟨0, by omega, rfl, by simpa using hvb0, Below.refl _ _⟩
      case round =>
        clear hvb0
        obtain ⟨k, hk, rfl, hv, hb⟩ := hrel
        by_cases hkl : k < sp.length
        · obtain ⟨a2, rfl, hc⟩ := flat_get sk_length (by decide) (HKl.out.below hb) k hkl
          have hks := (HKs.out _ (List.getElem_mem hkl)).below hb
          have hpl := HPl.out _ (List.getElem_mem hkl)
          have hT : B0 ++ ((sp.take (k + 1)).map LSpot.p).flatMap spotBytes = (B0 ++ ((sp.take k).map LSpot.p).flatMap spotBytes) ++ spotBytes (LSpot.p sp[k]) := by rw [take_snoc hkl, List.map_append, List.flatMap_append, List.append_assoc]; simp
          have hlj := spots_le ((sp.take k).map LSpot.p) (fun s hs => by obtain ⟨t, ht, rfl⟩ := List.mem_map.1 hs; exact (HPl.out t (List.mem_of_mem_take ht)).1)
          rw [List.length_map, List.length_take] at hlj
          generalize sp[k] = s at hc hks hT hpl
          have HT : Hid (B0 ++ ((sp.take (k + 1)).map LSpot.p).flatMap spotBytes = (B0 ++ ((sp.take k).map LSpot.p).flatMap spotBytes) ++ (numBytes (numNat s.f) ++ risingBytes s.l)) := hT
          have hlen : (B0 ++ ((sp.take k).map LSpot.p).flatMap spotBytes).length ≤ 12000 := by rw [List.length_append]; omega
          generalize B0 ++ ((sp.take k).map LSpot.p).flatMap spotBytes = Z at hv HT hlen
          clear hT hlj
          have hsl := placesB_len hpl.1
          unfold sk at hc
          have HC := Lib.hid hc
          clear hc
          have hj2 : decide ((k : Int) < (sp.length : Int)) = true := decide_eq_true (by omega)
          obtain ⟨A2, c2, rfl, hc2, hn2⟩ := hv.form
          go_upto_region 15 with (refine wpList_load_any rfl 46 (.tmp 42) rfl _ rfl _ _ HC.out rfl rfl info_spot ?_)
          have hb7 : Below wr.heap.size wr (wr.alloc (.cells #[.int .i64 s.f, .slice s.A s.l.length s.c] 46)) := (Below.refl _ _).alloc (Nat.le_refl _) _
          have z0 : (wr.alloc (.cells #[.int .i64 s.f, .slice s.A s.l.length s.c] 46)).cell? ⟨wr.heap.size, 0, none⟩ = some (.int .i64 s.f) := by go_cell
          have z1 : (wr.alloc (.cells #[.int .i64 s.f, .slice s.A s.l.length s.c] 46)).cell? ⟨wr.heap.size, 1, none⟩ = some (.slice s.A s.l.length s.c) := by go_cell
          have hN7 : wr.heap.size < (wr.alloc (.cells #[.int .i64 s.f, .slice s.A s.l.length s.c] 46)).heap.size := by simp
          have hk7 := (hks.below hb7).below (Below.refl _ _).drew
          have hv7 := (hv.below hb7).drew
          have hb07 := hb.trans (hb7.mono hb.size)
          generalize (wr.alloc (.cells #[.int .i64 s.f, .slice s.A s.l.length s.c] 46)) = W7 at z0 z1 hb07 hN7 hk7 hv7 ⊢
          have z0d : W7.drew.cell? ⟨wr.heap.size, 0, none⟩ = some (.int .i64 s.f) := z0
          have z1d : W7.drew.cell? ⟨wr.heap.size, 1, none⟩ = some (.slice s.A s.l.length s.c) := z1
          have hN7d : wr.heap.size < W7.drew.heap.size := hN7
          have hb07d := hb07.trans ((Below.refl wb.heap.size W7).drew)
          generalize wr.heap.size = N7 at z0 z1 z0d z1d hN7 hN7d ⊢
          have HK7 := Lib.hid hk7
          have HN := Lib.hid (rnum_any A2 c2 Z s.f W7.drew (by omega) (by omega) hn2 (RB.of_own hv7))
          have hXn := Lib.hid (show ∀ n : List UInt8, n.length ≤ 9 → (Z ++ n).length ≤ 12009 from fun n hn => by rw [List.length_append]; omega)
          have hnb := Lib.hid (numBytes_le (numNat s.f))
          clear hb7 hks hk7 HC hb hv hv7
          generalize numBytes (numNat s.f) = Nf at HN HT hnb
          go_region_law (first
            | (go_simp; go_at_call 24; refine HN.out.mono ?_; rintro e w6 ⟨v6, rfl, hv6, hb6⟩
               have z06 : w6.cell? ⟨N7, 0, none⟩ = some (.int .i64 s.f) := by rw [hb6.cell (p := ⟨N7, 0, none⟩) hN7d]; exact z0d
               have z16 : w6.cell? ⟨N7, 1, none⟩ = some (.slice s.A s.l.length s.c) := by rw [hb6.cell (p := ⟨N7, 1, none⟩) hN7d]; exact z1d
               obtain ⟨A3, c3, rfl, hc3, hn3⟩ := hv6.form
               have hX6 := hXn.out Nf hnb.out
               have HR := Lib.hid (rrising_any A3 s.A c3 s.c (Z ++ Nf) s.l w6 (by omega) hn3 HK7.out.c (fun z hz => HK7.out.z z hz) (RB.of_own hv6) (HK7.out.below hb6).li)
               generalize (Z ++ Nf).length = m6 at *)
            | (go_simp; go_at_call 25; refine HR.out.mono ?_; rintro e w7 ⟨v7, rfl, hv7, hb7⟩))
          all_goals simp only [Act.put, List.getElem_toArray, List.getElem_cons_succ, List.getElem_cons_zero, List.setIfInBounds_toArray, List.set_cons_zero, List.set_cons_succ]
          all_goals go_wp2_with fail
          all_goals
            go_roundg (sp.length - (k + 1))
            case measure => omega
            case rel => exact ⟨k + 1, by omega, by go_num, by rw [HT.out, ← List.append_assoc]; exact hv7.mono (Nat.le_trans (Nat.le_trans hb0b.size hb07d.size) hb6.size), (hb07d.trans (hb6.mono hb07d.size)).trans (hb7.mono (Nat.le_trans hb07d.size hb6.size))⟩
        · obtain rfl : k = sp.length := by omega
          rw [List.take_length, ← HB0.out] at hv
          have x0w : wr.cell? ⟨N5, 0, none⟩ = some (.int .i64 d) := by rw [hb.cell (p := ⟨N5, 0, none⟩) hNb]; exact x0b
          have hv4w := hv4b.below hb
          have hbw := hb0b.trans (hb.mono hb0b.size)
          have hYP : (Y ++ PB).length ≤ 2250 * (j + 1 - cc) := by rw [List.length_append]; omega
          have hj2 : decide ((sp.length : Int) < (sp.length : Int)) = false := decide_eq_false (by omega)
          have hwj : IntKind.i64.wrap ((ls.length : Int) - 1) = (ls.length : Int) - 1 := by go_arith
          generalize Y ++ PB = YP at HY' HB0 hv hYP
          clear x1b x0b hv4b hb0b hNb hb hw1 hw2 hw3 hw4
          obtain ⟨A6, c6, rfl, hc6, hn6⟩ := hv.form
          by_cases hfl : j % 4 = 3 ∨ j + 1 = ls.length
          · obtain ⟨A4, c4, rfl, hc4', hn4⟩ := hv4w.form
            have hw1 : wrap64 (d - ah) = d - ah := by go_arith
            have hw2 : wrap64 (d - ah - 1) = d - ah - 1 := by go_arith
            have hw3 : IntKind.i64.wrap (d - ah) = d - ah := by go_arith
            have hw4 : IntKind.i64.wrap (d - ah - 1) = d - ah - 1 := by go_arith
            have hYP2 : YP.length ≤ 10000 := by omega
            have hX2 : X.length ≤ 1000000000 := by omega
            have HTot : Hid ((X ++ (numBytes (numNat (d - ah - 1)) ++ textBytes YP)) ++ runsB d ((ls.map LPost.p).drop (j + 1)) = encB (ls.map LPost.p)) := by
              show _ = _
              have hne : (ls.map LPost.p).drop cc ≠ [] := by intro e; have := congrArg List.length e; rw [List.length_drop, List.length_map, List.length_nil] at this; omega
              have ht4 : ((ls.map LPost.p).drop cc).take 4 = ((ls.map LPost.p).take (j + 1)).drop cc := by
                rw [List.drop_take]
                by_cases h4 : j + 1 - cc = 4
                · rw [h4]
                · have hle : ((ls.map LPost.p).drop cc).length = j + 1 - cc := by rw [List.length_drop, List.length_map]; omega
                  rw [List.take_of_length_le (by omega), List.take_of_length_le (by omega)]
              have hd4 : ((ls.map LPost.p).drop cc).drop 4 = (ls.map LPost.p).drop (j + 1) := by
                rw [List.drop_drop]
                by_cases h4 : j + 1 - cc = 4
                · rw [show cc + 4 = j + 1 by omega]
                · rw [List.drop_of_length_le (by rw [List.length_map]; omega), List.drop_of_length_le (by rw [List.length_map]; omega)]
              have hlD : lastD ah (((ls.map LPost.p).take (j + 1)).drop cc) = d := by rw [HAh.out, lastD_take_drop (by omega), HLa'.out]
              rw [← HX.out, runsB_cons _ hne, ht4, hd4, hlD, chunkBytes, hlD, HY'.out]
              simp only [List.append_assoc]
            have hfq : (((j : Int) % 4 == 3) || ((j : Int) == (ls.length : Int) - 1)) = true := by
              rcases hfl with h | h
              · rw [beq_iff_eq.mpr (show (j : Int) % 4 = 3 by omega)]; rfl
              · rw [beq_iff_eq.mpr (show (j : Int) = (ls.length : Int) - 1 by omega), Bool.or_true]
            have hsY : (str YP).size = YP.length := str_size YP
            have hsT : (str YP).data.toList = YP := str_toList YP
            have kc := RB.str (P := Try.prog) (w := wr.drew) (src := 23) (dst := 9) Try.underlying23 Try.underlying5 Try.underlying9 (RB.of_own hv.drew) YP.length c6 rfl
            have HN := Lib.hid (rnum_any A4 c4 X (d - ah - 1) wr.drew (by omega) (by omega) hn4 (RB.of_own hv4w.drew))
            have hnb := numBytes_le (numNat (d - ah - 1))
            have hXn : (X ++ numBytes (numNat (d - ah - 1))).length ≤ 1000000100 := by rw [List.length_append]; omega
            generalize numBytes (numNat (d - ah - 1)) = Nb at HN HTot hnb hXn
            have hvd := hv.drew
            have hbwd := hbw.trans (Below.refl w.heap.size wr).drew
            have HSY := Lib.hid hsY
            have HST := Lib.hid hsT
            have hrow : ∀ (X' : List UInt8) (w8 : World) (v8 v9 : Value) (w9 : World), True := fun _ _ _ _ _ => trivial
            have HFl := Lib.hid hfl
            clear hrow hsY hsT hv hv4w hbw
            have hqq : (((j : Int) % 4 == 3) = true ∧ (j : Int) % 4 = 3) ∨ (((j : Int) % 4 == 3) = false ∧ ¬ (j : Int) % 4 = 3 ∧ ((j : Int) == (ls.length : Int) - 1) = true ∧ (j : Int) = (ls.length : Int) - 1) := by
              by_cases h : j % 4 = 3
              · exact .inl ⟨beq_iff_eq.mpr (by omega), by omega⟩
              · exact .inr ⟨beq_eq_false_iff_ne.mpr (by omega), by omega, beq_iff_eq.mpr (by omega), by omega⟩
            have HXl : Hid (∀ T : List UInt8, T.length ≤ 9009 + 9 → (X ++ T).length ≤ 9 + 9018 * (j + 1)) := fun T hT => by rw [List.length_append]; omega
            have HYl := Lib.hid (show ((Nb ++ textBytes YP).length ≤ 9009 + 9) by unfold textBytes; rw [List.length_append, List.length_append]; have := numBytes_le YP.length; omega)
            clear hfl hfq
            rcases hqq with ⟨q1, q1'⟩ | ⟨q1, q1', q2, q2'⟩
            all_goals
              go_upto_region 19 with fail
              go_region_law (first
                | (go_simp; go_at_call 24; refine HN.out.mono ?_; rintro e8 w8 ⟨v8, rfl, hv8, hb8⟩
                   obtain ⟨A8, c8, rfl, hc8, hn8⟩ := hv8.form
                   have hvd8 := hvd.below hb8
                   have kc8 := RB.str (P := Try.prog) (w := w8) (src := 23) (dst := 9) Try.underlying23 Try.underlying5 Try.underlying9 (RB.of_own hvd8) YP.length c6 rfl
                   have HTx := rtext_any A8 c8 (X ++ Nb) (str YP) w8 (by rw [HSY.out]; omega) hn8 (RB.of_own hv8)
                   rw [HST.out] at HTx
                   have HTx := Lib.hid HTx
                   generalize (X ++ Nb).length = m8 at *)
                | (go_simp; go_at_call 26; refine HTx.out.mono ?_; rintro e9 w9 ⟨v9, rfl, hv9, hb9⟩))
            all_goals simp only [Act.put, List.getElem_toArray, List.getElem_cons_succ, List.getElem_cons_zero, List.setIfInBounds_toArray, List.set_cons_zero, List.set_cons_succ]
            all_goals go_wp2_with fail
            all_goals
              go_roundg (ls.length - (j + 1))
              case measure => omega
              case rel => exact ⟨j + 1, j + 1, X ++ (Nb ++ textBytes YP), [], d, d, by omega, by go_num, by omega, by omega, by omega, by omega, rfl, rfl, HLa'.out.symm, HLa'.out.symm, by omega, by omega, by omega, by omega, by rw [List.drop_of_length_le (by rw [List.length_take]; omega)]; rfl, HTot.out, HXl.out _ HYl.out, by simp, by rw [← List.append_assoc]; exact hv9.mono (Nat.le_trans hbwd.size hb8.size), World.ownsRow_nil _ _ _ _, hbwd.trans ((hb8.mono hbwd.size).trans (hb9.mono (Nat.le_trans hbwd.size hb8.size)))⟩
          · have q1 : ((j : Int) % 4 == 3) = false := beq_eq_false_iff_ne.mpr (by omega)
            have q2 : ((j : Int) == (ls.length : Int) - 1) = false := beq_eq_false_iff_ne.mpr (by omega)
            have q1' : ¬ (j : Int) % 4 = 3 := by omega
            have q2' : ¬ (j : Int) = (ls.length : Int) - 1 := by omega
            have HFl := Lib.hid hfl
            clear hfl
            go_wp2_with fail
            go_roundg (ls.length - (j + 1))
            case measure => omega
            case rel => exact ⟨j + 1, cc, X, YP, d, ah, by omega, by go_num, by omega, by have := HFl.out; omega, by omega, by intro e; have := HFl.out; omega, rfl, rfl, HLa'.out.symm, HAh.out, by omega, by omega, hah0, hah1, HY'.out.symm, HX.out, hXl, hYP, hv4w, hv, hbw⟩
    · obtain rfl : j = ls.length := by omega
      have hcl := hce rfl
      subst hcl
      have hXe : X = encB (ls.map LPost.p) := by
        rw [← hX, List.drop_of_length_le (by rw [List.length_map]; exact Nat.le_refl _), runsB_nil, List.append_nil]
      have HXe := Lib.hid hXe
      have hj1 : decide ((ls.length : Int) < (ls.length : Int)) = false := decide_eq_false (by omega)
      clear hX hla hah hY hXe hce hcm
      go_wp2_with fail
      go_returns
      exact ⟨_, rfl, by rw [← HXe.out]; exact hv4, hb⟩
end Go.Proofs.Ytbeejmedekgjjaa
