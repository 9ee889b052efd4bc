/- The walk of the law of seeking. -/
import Derived.Test.YtbeejmedekgjjaaPqL
import Derived.Test.YtbeejmedekgjjaaPqM
import Derived.Test.YtbeejmedekgjjaaPqF
import Derived.Test.YtbeejmedekgjjaaPqH
import Derived.Test.YtbeejmedekgjjaaPqI
import Derived.Deep.CutRange
namespace Go.Proofs.Ytbeejmedekgjjaa
open Go.RowKit
set_option linter.unusedVariables false
set_option linter.unusedSimpArgs false
theorem open_sim {l : List Post} (hc : chkB l = true) : Sim (openIt (encB l)) l := by
  have hl := chkB_len hc
  have hn : numS 65536 (some (encB l)) = (l.length, some (runsB (-1) l)) := by rw [encB_runs]; exact numS_num (by omega) (by omega) _
  unfold openIt
  rw [hn]
  exact ⟨rfl, rfl, Nat.zero_le _, rfl, rfl, by simp, hc, by simp⟩
theorem Sim.notBad {t : It} {l : List Post} (h : Sim t l) : t.isBad = false := by
  cases l with
  | nil => exact h.nil.2.2
  | cons p l =>
    have h1 := h.left
    rw [List.length_cons] at h1
    unfold It.isBad
    rw [h.bad, h.runs, decide_eq_false (by omega)]
    rfl
theorem Posts.tail {w : World} {A A' : Option Addr} {c : Nat} {p : LPost} {rs : List LPost} (h : Posts w A c (p :: rs)) (hA : CutAt A A' 1 c 2) : Posts w A' (c - 1) rs := by
  have hc := h.c
  rw [List.length_cons] at hc
  have hm := h.m
  rw [List.length_cons] at hm
  refine ⟨?_, fun q hq => h.i q (List.mem_cons_of_mem _ hq), by omega, by omega⟩
  unfold CutAt at hA
  split at hA
  · have : rs = [] := List.length_eq_zero_iff.1 (by omega)
    subst this
    exact Lies.nil _ _
  · intro k v hk
    have hk2 : ((p :: rs).flatMap pk)[k + 2]? = some v := by
      rw [List.flatMap_cons, List.getElem?_append_right (by rw [pk_length]; omega), pk_length]
      simpa using hk
    obtain ⟨a, ha, hcell⟩ := h.li _ _ hk2
    subst ha
    refine ⟨_, hA, ?_⟩
    rw [Addr.add_add, Nat.one_mul, Nat.add_comm]
    exact hcell
theorem Posts.head {w : World} {A : Option Addr} {c : Nat} {p : LPost} {rs : List LPost} (h : Posts w A c (p :: rs)) : Posts w A c [p] :=
  ⟨fun k v hk => h.li k v (by
    rw [List.flatMap_cons, List.flatMap_nil, List.append_nil] at hk
    rw [List.flatMap_cons, List.getElem?_append_left (List.getElem?_eq_some_iff.1 hk).1]
    exact hk), fun q hq => by cases List.mem_singleton.1 hq; exact h.i _ List.mem_cons_self, by have := h.c; rw [List.length_cons] at this; show 1 ≤ c; omega, by show (1 : Nat) ≤ _; omega⟩
set_option maxRecDepth 100000 in
set_option maxHeartbeats 6400000 in
theorem postingSeeks_walk (A : Option Addr) (c : Nat) (ls : List LPost) (B : Option Addr) (d : Nat) (zs : List Int) (w : World) (h : Posts w A c ls) (hn : ∀ p ∈ ls, p.spots.length ≤ 4398046511103)
    (hr : Lies w B (zs.map (Value.int .i64))) (hB : B = none → d = 0) (hld : zs.length ≤ d) (hm : zs.length * 8 ≤ 140737488351232) (hz : ∀ z ∈ zs, (Lit.int .i64 z).wf = true) :
    Calls Try.prog 5 #[.slice A ls.length c, .slice B zs.length d] w fun e w' => e = .returned (.bool true) ∧ Below w.heap.size w w' := by
  have HP := Lib.hid h
  have HR := Lib.hid hr
  have HAw := Lib.hid (fun w' => pawake_any w')
  have HEn := Lib.hid (enc_gen A c ls w h)
  have hzl : zs.length ≤ 9223372036854775807 := by omega
  clear h hr hn hz
  go_enter Try.func5, Try.ntmps5
  go_wp2_with fail
  refine HEn.out.mono ?_
  rintro e2 w2 ⟨A2, c2, rfl, hr2, hc2, hn2, hb2⟩
  clear HEn
  have hlen := encV_len (ls.map LPost.p)
  have HF := Lib.hid (few_any A c ls w2 (HP.out.below hb2))
  by_cases hk : chkB (ls.map LPost.p) = true
  · rw [chkE_ok hk]
    have hev : encV (ls.map LPost.p) = encB (ls.map LPost.p) := by unfold encV; rw [hk]; rfl
    have HSi := Lib.hid (open_sim hk)
    rw [← hev] at HSi
    have HOp := Lib.hid (open_any A2 c2 (encV (ls.map LPost.p)) w2 (by omega) hn2 hr2)
    have HOi : Hid ({ runs := (numS 65536 (some (encV (ls.map LPost.p)))).2, run := some [], left := (numS 65536 (some (encV (ls.map LPost.p)))).1, inn := 0, last := -1, top := -1, bad := false } = openIt (encV (ls.map LPost.p))) := rfl
    rw [HOi.out] at HOp
    have HOk := Lib.hid (openIt_ok (bs := encV (ls.map LPost.p)) (by omega))
    clear HOi
    generalize openIt (encV (ls.map LPost.p)) = it0 at HSi HOp HOk
    generalize (encV (ls.map LPost.p)).length = en at *
    clear hev hk hr2
    go_wp2_with fail
    refine HF.out.mono ?_
    rintro e3 w3 ⟨⟨b, rfl⟩, rfl⟩
    cases b with
    | false =>
      go_wp2_with (go_at_call 7; refine (HAw.out _).mono ?_; rintro ea wa ⟨rfl, hba⟩)
      go_returns
      exact ⟨rfl, hb2.trans (hba.mono hb2.size)⟩
    | true =>
      go_wp2_with fail
      refine HOp.out.mono ?_
      rintro e4 w4 ⟨t, g, r, rfl, hi4, ht4, hg4, hr4, hb4⟩
      have hb04 := hb2.trans (hb4.mono hb2.size)
      have hsz2 := hb2.size
      clear HOp HF
      go_wp2_with fail
      go_loopg [8, 31] zs.length (fun rr s8 s31 wr => ∃ (i : Nat) (rs : List LPost) (Ar : Option Addr) (cr : Nat) (it : It) (r : Nat), i + rr = zs.length ∧ s31 = .int .i64 i ∧ s8 = .slice Ar rs.length cr ∧ Posts w Ar cr rs ∧ ItAt wr t g r it ∧ it.Ok ∧ Sim it (rs.map LPost.p) ∧ w.heap.size ≤ r ∧ Below w.heap.size w wr)
      case atStart => exact ⟨0, ls, A, c, it0, r, by omega, rfl, rfl, HP.out, hi4, HOk.out, HSi.out, by omega, hb04⟩
      case round =>
        have htw : w.heap.size ≤ t ∧ w.heap.size ≤ g := by omega
        clear hi4 hb04 hr4 HSi HOk hb4 ht4 hg4
        obtain ⟨i, rs, Ar, cr, it, r, hi, rfl, rfl, hps, hit, hok, hsim, hrw, hb⟩ := hrel
        by_cases hin : i < zs.length
        · have hj1 : decide ((i : Int) < (zs.length : Int)) = true := decide_eq_true (by omega)
          have hj2 : (i : Int) < (zs.length : Int) := by omega
          obtain ⟨a, rfl, hc⟩ := (HR.out.below hb).at (k := i) (by simpa using hin)
          rw [List.getElem_map] at hc
          generalize zs[i] = z at hc
          by_cases h80 : i < 80
          · have hj3 : decide ((i : Int) ≥ 80) = false := decide_eq_false (by omega)
            have hj4 : decide ((80 : Int) ≤ (i : Int)) = false := decide_eq_false (by omega)
            have hbA := (Below.refl wr.heap.size wr).alloc (Nat.le_refl _) (.cells #[.int .i64 0, .slice none 0 0] 40)
            have hiA := hit.below hbA
            have hN0 := heap_alloc_new wr (.cells #[.int .i64 0, .slice none 0 0] 40)
            have hbw := hb.alloc hb.size (.cells #[.int .i64 0, .slice none 0 0] 40)
            have hwN := hb.size
            have hitl := hit.lt
            clear hit hbA hb
            go_upto_if 40 with fail
            generalize wr.alloc (.cells #[.int .i64 0, .slice none 0 0] 40) = wA at *
            obtain ⟨N, hN⟩ : ∃ N, wr.heap.size = N := ⟨_, rfl⟩
            rw [hN] at hN0 hwN hitl ⊢
            clear hN hc
            have hNlt := blk_lt hN0
            have hiAl := hiA.lt
            have HRg : Hid (it.Ok) := hok
            go_cut [8, 11, 31] from 32 to 84 (fun s8 s11 s31 wc => ∃ (rs' : List LPost) (Ar' : Option Addr) (cr' : Nat) (it' : It) (r' : Nat) (ok : Bool) (nx : List LPost) (pp : LPost), s8 = .slice Ar' rs'.length cr' ∧ s11 = .bool ok ∧ s31 = .int .i64 i ∧ Posts w Ar' cr' rs' ∧ ItAt wc t g r' it' ∧ it'.Ok ∧ Sim it' (nx.map LPost.p) ∧ w.heap.size ≤ r' ∧ Below w.heap.size w wc ∧ wc.heap[N]? = some (.cells #[.int .i64 pp.d, .slice pp.S pp.spots.length pp.c] 40 (0, 0)) ∧
            ((ok = false ∧ rs' = [] ∧ nx = []) ∨ (ok = true ∧ (∃ q, rs' = q :: nx ∧ pp.p = q.p) ∧ pp.In wc)))
            case first =>
              have FIN : ∀ (w2 : World) (r2 : Nat) (it2 : It) (x : Int) (S : Option Addr) (n cS : Nat), ItAt w2 t g r2 it2 → (r2 = r ∨ wA.heap.size ≤ r2) → Only wA w2 [t, g, r] → w2.heap[N]? = some (.cells #[.int .i64 0, .slice none 0 0] 40 (0, 0)) →
                  ItAt ((w2.setCell ⟨N, 0, none⟩ (.int .i64 x)).setCell ⟨N, 1, none⟩ (.slice S n cS)) t g r2 it2 ∧ w.heap.size ≤ r2 ∧ Below w.heap.size w ((w2.setCell ⟨N, 0, none⟩ (.int .i64 x)).setCell ⟨N, 1, none⟩ (.slice S n cS)) ∧ ((w2.setCell ⟨N, 0, none⟩ (.int .i64 x)).setCell ⟨N, 1, none⟩ (.slice S n cS)).heap[N]? = some (.cells #[.int .i64 x, .slice S n cS] 40 (0, 0)) ∧ Only w2 ((w2.setCell ⟨N, 0, none⟩ (.int .i64 x)).setCell ⟨N, 1, none⟩ (.slice S n cS)) [N] := by
                intro w2 r2 it2 x S n cS hi2 hr2 ho2 hp2
                have hOw : Only w2 ((w2.setCell ⟨N, 0, none⟩ (.int .i64 x)).setCell ⟨N, 1, none⟩ (.slice S n cS)) [N] := ((Only.of_grown (Lib.grownBy_setCell w2 N 0 _)).mono (by simp)).trans ((Only.of_grown (Lib.grownBy_setCell _ N 1 _)).mono (by simp))
                have hs2 := ho2.size
                have hb2 : Below w.heap.size w w2 := hbw.trans (ho2.below (by intro i hi; simp at hi; omega) hbw.size)
                refine ⟨hi2.only hOw (by simp; omega) (by simp; omega) (by simp; omega) (by intro k hk; simp at hk; subst hk; exact ⟨_, _, _, hp2, by simp⟩), by omega, hb2.trans (hOw.below (by intro i hi; simp at hi; omega) hb2.size), ?_, hOw⟩
                rw [heap_setCell_same _ N 1 _ _ _ (heap_setCell_same w2 N 0 _ _ _ hp2)]
                rfl
              have FI := Lib.hid FIN
              clear FIN
              by_cases hz0 : z < 0
              · have qz : decide (z < 0) = true := decide_eq_true hz0
                have HNx := Lib.hid (next_any t g r it wA hiA hok)
                have hokn := hok.next
                cases rs with
                | nil =>
                  obtain ⟨n1, n2, _⟩ := Sim.nil hsim
                  rw [n1, n2] at HNx
                  have HSm := Lib.hid hsim
                  clear hsim n1 n2 hiA hokn
                  go_wp2_with (go_at_call 17; refine HNx.out.mono ?_; rintro e2 w2 ⟨r2, hi2, hr2, ho2, he, _⟩
                               obtain rfl := he rfl
                               have hp2 : w2.heap[N]? = some (.cells #[.int .i64 0, .slice none 0 0] 40 (0, 0)) := (ho2.block N hNlt (by simp; omega)).trans hN0
                               have kp0 : w2.cell? ⟨N, 0, none⟩ = some (.int .i64 0) := blk_cell hp2
                               have kp1 : w2.cell? ⟨N, 1, none⟩ = some (.slice none 0 0) := blk_cell hp2
                               have fp : ∀ k, w2.frozen? ⟨N, k, none⟩ = false := fun k => blk_free hp2)
                  obtain ⟨f1, f2, f3, f4, _⟩ := FI.out w2 r2 it 0 none 0 0 hi2 hr2 ho2 hp2
                  go_meet
                  exact ⟨[], Ar, cr, it, r2, false, [], ⟨0, none, 0, []⟩, rfl, rfl, rfl, hps, f1, HRg.out, HSm.out, f2, f3, f4, .inl ⟨rfl, rfl, rfl⟩⟩
                | cons q nx =>
                  obtain ⟨n1, n2⟩ := Sim.cons (p := LPost.p q) (l := nx.map LPost.p) hsim
                  rw [n1] at HNx
                  have HSm := Lib.hid n2
                  have HOn := Lib.hid hokn
                  clear hsim n1 n2 hiA hokn
                  go_wp2_with (go_at_call 17; refine HNx.out.mono ?_; rintro e2 w2 ⟨r2, hi2, hr2, ho2, _, he⟩
                               obtain ⟨pp, rfl, hpi, hpp, bb, hbb, hbw2, hpf⟩ := he _ rfl
                               have hp2 : w2.heap[N]? = some (.cells #[.int .i64 0, .slice none 0 0] 40 (0, 0)) := (ho2.block N hNlt (by simp; omega)).trans hN0
                               have kp0 : w2.cell? ⟨N, 0, none⟩ = some (.int .i64 0) := blk_cell hp2
                               have kp1 : w2.cell? ⟨N, 1, none⟩ = some (.slice none 0 0) := blk_cell hp2
                               have fp : ∀ k, w2.frozen? ⟨N, k, none⟩ = false := fun k => blk_free hp2)
                  obtain ⟨f1, f2, f3, f4, f5⟩ := FI.out w2 r2 it.nextIt pp.d pp.S pp.spots.length pp.c hi2 hr2 ho2 hp2
                  go_meet
                  exact ⟨q :: nx, Ar, cr, it.nextIt, r2, true, nx, pp, rfl, rfl, rfl, hps, f1, HOn.out, HSm.out, f2, f3, f4, .inr ⟨rfl, ⟨q, rfl, hpp⟩, hpi.only f5 hpf (by intro i hi; simp at hi; omega)⟩⟩
              · have qz : decide (z < 0) = false := decide_eq_false hz0
                have HSk := Lib.hid (seek_any t g r it (rs.map LPost.p) z wA hiA hok hsim)
                clear hsim hiA hok
                go_wp2_with fail
                refine HSk.out.mono ?_
                rintro e2 w2 ⟨r2, it2, l2, hi2, hok2, hsim2, hr2, ho2, hAlt⟩
                have hp2 : w2.heap[N]? = some (.cells #[.int .i64 0, .slice none 0 0] 40 (0, 0)) := (ho2.block N hNlt (by simp; omega)).trans hN0
                have kp0 : w2.cell? ⟨N, 0, none⟩ = some (.int .i64 0) := blk_cell hp2
                have kp1 : w2.cell? ⟨N, 1, none⟩ = some (.slice none 0 0) := blk_cell hp2
                have fp : ∀ k, w2.frozen? ⟨N, k, none⟩ = false := fun k => blk_free hp2
                have hInn : ∀ (P : Prop), True := fun _ => trivial
                clear hInn HSk
                rcases hAlt with ⟨hdw, rfl, rfl⟩ | ⟨pp, hdw, rfl, hpi, bb, hbb, hbw2, hpf⟩
                · go_wp2_with fail
                  obtain ⟨f1, f2, f3, f4, _⟩ := FI.out w2 r2 it2 0 none 0 0 hi2 hr2 ho2 hp2
                  generalize (w2.setCell ⟨N, 0, none⟩ (.int .i64 0)).setCell ⟨N, 1, none⟩ (.slice none 0 0) = w3 at *
                  go_loopg [8] (rs.length + 1) (fun r2 s8 wz => ∃ (rs1 : List LPost) (A1 : Option Addr) (c1 : Nat), s8 = .slice A1 rs1.length c1 ∧ Posts w A1 c1 rs1 ∧ (rs.map LPost.p).dropWhile (below z) = (rs1.map LPost.p).dropWhile (below z) ∧ rs1.length < r2 ∧ wz = w3)
                  case atStart => exact ⟨rs, Ar, cr, rfl, hps, rfl, Nat.lt_succ_self _, rfl⟩
                  case round =>
                    obtain ⟨rs1, A1, c1, rfl, hp1, hd1, hl1, rfl⟩ := hrel
                    cases rs1 with
                    | nil =>
                      go_wp2_with fail
                      go_meet
                      exact ⟨[], A1, c1, it2, r2, false, [], ⟨0, none, 0, []⟩, rfl, rfl, rfl, hp1, f1, hok2, hsim2, f2, f3, f4, .inl ⟨rfl, rfl, rfl⟩⟩
                    | cons q nx =>
                      have hlen1 : (q :: nx).length = nx.length + 1 := rfl
                      have hpos : decide (((q :: nx).length : Int) > 0) = true := decide_eq_true (by rw [hlen1]; omega)
                      have hpos2 : 0 < (q :: nx).length := by rw [hlen1]; omega
                      have hpos3 : (0 : Int) < ((q :: nx).length : Int) := by omega
                      have hc1 := hp1.c
                      obtain ⟨a1, ha1, hq⟩ := flat_get pk_length (by decide) (hp1.li.below f3) 0 hpos2
                      have hq0 : wr.cell? a1 = some (.int .i64 q.d) := by have := hq 0 (.int .i64 q.d) rfl; simpa [Addr.add_zero'] using this
                      subst ha1
                      by_cases hqz : q.d < z
                      · have qd : decide (q.d < z) = true := decide_eq_true hqz
                        have hdn : (rs.map LPost.p).dropWhile (below z) = (nx.map LPost.p).dropWhile (below z) := by
                          rw [hd1, List.map_cons, List.dropWhile_cons, if_pos (show below z (LPost.p q) = true from decide_eq_true hqz)]
                        have HL1 := Lib.hid hlen1
                        have HDn := Lib.hid hdn
                        have HP1 := Lib.hid hp1
                        clear hlen1 hdn hd1 hp1 hqz
                        obtain ⟨n1, hn1⟩ : ∃ n1, (q :: nx).length = n1 := ⟨_, rfl⟩
                        rw [hn1] at hpos hpos2 hpos3 hc1 ⊢
                        have HN1 := Lib.hid hn1
                        clear hn1
                        go_wp2_with (refine wpList_cut _ rfl (.tmp 63) (some (.const (.int .i64 1))) none none 22 rfl 40 _ 2 32 Try.underlying22 info_posts (some a1) n1 c1 rfl 1 n1 c1 ⟨_, rfl⟩ rfl rfl (by simp) (by omega) (by omega) (by omega) ?_; intro A3 hA3)
                        have hnx : n1 - 1 = nx.length := by have := HN1.out; have := HL1.out; omega
                        rw [hnx]
                        go_roundg (nx.length + 1)
                        case measure => have := HN1.out; have := HL1.out; omega
                        case rel => exact ⟨nx, A3, c1 - 1, rfl, HP1.out.tail hA3, HDn.out, Nat.lt_succ_self _, rfl⟩
                      · have qd : decide (q.d < z) = false := decide_eq_false hqz
                        obtain ⟨n1, hn1⟩ : ∃ n1, (q :: nx).length = n1 := ⟨_, rfl⟩
                        rw [hn1] at hpos hpos2 hpos3 hc1 ⊢
                        have HN1 := Lib.hid hn1
                        clear hn1 hlen1
                        go_wp2_with fail
                        rw [← HN1.out]
                        rw [hdw] at hd1
                        exact absurd hd1.symm (by rw [List.map_cons, List.dropWhile_cons, if_neg (by unfold below; rw [show (LPost.p q).doc = q.d from rfl, decide_eq_false (by omega)]; simp)]; simp)
                · go_wp2_with fail
                  obtain ⟨f1, f2, f3, f4, f5⟩ := FI.out w2 r2 it2 pp.d pp.S pp.spots.length pp.c hi2 hr2 ho2 hp2
                  have hpi3 := hpi.only f5 hpf (by intro i hi; simp at hi; omega)
                  generalize (w2.setCell ⟨N, 0, none⟩ (.int .i64 pp.d)).setCell ⟨N, 1, none⟩ (.slice pp.S pp.spots.length pp.c) = w3 at *
                  go_loopg [8] (rs.length + 1) (fun r2 s8 wz => ∃ (rs1 : List LPost) (A1 : Option Addr) (c1 : Nat), s8 = .slice A1 rs1.length c1 ∧ Posts w A1 c1 rs1 ∧ (rs.map LPost.p).dropWhile (below z) = (rs1.map LPost.p).dropWhile (below z) ∧ rs1.length < r2 ∧ wz = w3)
                  case atStart => exact ⟨rs, Ar, cr, rfl, hps, rfl, Nat.lt_succ_self _, rfl⟩
                  case round =>
                    obtain ⟨rs1, A1, c1, rfl, hp1, hd1, hl1, rfl⟩ := hrel
                    cases rs1 with
                    | nil =>
                      go_wp2_with fail
                      rw [hdw] at hd1
                      simp at hd1
                    | cons q nx =>
                      have hlen1 : (q :: nx).length = nx.length + 1 := rfl
                      have hpos : decide (((q :: nx).length : Int) > 0) = true := decide_eq_true (by rw [hlen1]; omega)
                      have hpos2 : 0 < (q :: nx).length := by rw [hlen1]; omega
                      have hpos3 : (0 : Int) < ((q :: nx).length : Int) := by omega
                      have hc1 := hp1.c
                      obtain ⟨a1, ha1, hq⟩ := flat_get pk_length (by decide) (hp1.li.below f3) 0 hpos2
                      have hq0 : wr.cell? a1 = some (.int .i64 q.d) := by have := hq 0 (.int .i64 q.d) rfl; simpa [Addr.add_zero'] using this
                      subst ha1
                      by_cases hqz : q.d < z
                      · have qd : decide (q.d < z) = true := decide_eq_true hqz
                        have hdn : (rs.map LPost.p).dropWhile (below z) = (nx.map LPost.p).dropWhile (below z) := by
                          rw [hd1, List.map_cons, List.dropWhile_cons, if_pos (show below z (LPost.p q) = true from decide_eq_true hqz)]
                        have HL1 := Lib.hid hlen1
                        have HDn := Lib.hid hdn
                        have HP1 := Lib.hid hp1
                        clear hlen1 hdn hd1 hp1 hqz
                        obtain ⟨n1, hn1⟩ : ∃ n1, (q :: nx).length = n1 := ⟨_, rfl⟩
                        rw [hn1] at hpos hpos2 hpos3 hc1 ⊢
                        have HN1 := Lib.hid hn1
                        clear hn1
                        go_wp2_with (refine wpList_cut _ rfl (.tmp 63) (some (.const (.int .i64 1))) none none 22 rfl 40 _ 2 32 Try.underlying22 info_posts (some a1) n1 c1 rfl 1 n1 c1 ⟨_, rfl⟩ rfl rfl (by simp) (by omega) (by omega) (by omega) ?_; intro A3 hA3)
                        have hnx : n1 - 1 = nx.length := by have := HN1.out; have := HL1.out; omega
                        rw [hnx]
                        go_roundg (nx.length + 1)
                        case measure => have := HN1.out; have := HL1.out; omega
                        case rel => exact ⟨nx, A3, c1 - 1, rfl, HP1.out.tail hA3, HDn.out, Nat.lt_succ_self _, rfl⟩
                      · have qd : decide (q.d < z) = false := decide_eq_false hqz
                        obtain ⟨n1, hn1⟩ : ∃ n1, (q :: nx).length = n1 := ⟨_, rfl⟩
                        rw [hn1] at hpos hpos2 hpos3 hc1 ⊢
                        have HN1 := Lib.hid hn1
                        clear hn1 hlen1
                        go_wp2_with fail
                        rw [← HN1.out]
                        rw [hdw, List.map_cons, List.dropWhile_cons, if_neg (by unfold below; rw [show (LPost.p q).doc = q.d from rfl, decide_eq_false (by omega)]; simp)] at hd1
                        injection hd1 with hd1 hd2
                        go_meet
                        exact ⟨q :: nx, _, c1, it2, r2, true, nx, pp, rfl, rfl, rfl, hp1, f1, hok2, by rw [← hd2]; exact hsim2, f2, f3, f4, .inr ⟨rfl, ⟨q, rfl, hd1⟩, hpi3⟩⟩
            case rest =>
              clear hsim hiA hps hok hbw hN0 HRg
              obtain ⟨rs1, A1, c1, it1, r1, ok, nx, pp, rfl, rfl, rfl, hp1, hi1, hok1, hs1, hr1, hb1, hN1, hAlt⟩ := hcut
              have HBd := Lib.hid (bad_any t g r1 it1 wc hi1 hok1.g)
              rw [hs1.notBad] at HBd
              rcases hAlt with ⟨rfl, rfl, rfl⟩ | ⟨rfl, ⟨q, rfl, hpp⟩, hpi⟩
              · go_wp2_with (go_at_call 19; refine HBd.out.mono ?_; rintro e5 w5 ⟨rfl, rfl⟩)
                go_roundg (zs.length - (i + 1))
                case measure => omega
                case rel => exact ⟨i + 1, [], _, _, it1, r1, by omega, by go_num, rfl, hp1, hi1, hok1, hs1, hr1, hb1⟩
              · have hlen1 : (q :: nx).length = nx.length + 1 := rfl
                have hpos : decide (((q :: nx).length : Int) > 0) = true := decide_eq_true (by rw [hlen1]; omega)
                have hpos2 : 0 < (q :: nx).length := by rw [hlen1]; omega
                have hpos3 : (1 : Nat) ≤ (q :: nx).length := hpos2
                have hc1 := hp1.c
                have HP1 := Lib.hid hp1
                obtain ⟨n1, hn1⟩ : ∃ n1, (q :: nx).length = n1 := ⟨_, rfl⟩
                rw [hn1] at hpos hpos2 hpos3 hc1 hlen1 ⊢
                have HL1 := Lib.hid hlen1
                have k0 : wc.cell? ⟨N, 0, none⟩ = some (.int .i64 pp.d) := blk_cell hN1
                have k1 : wc.cell? ⟨N, 1, none⟩ = some (.slice pp.S pp.spots.length pp.c) := blk_cell hN1
                have hc11 : 1 ≤ c1 := by omega
                have hc1i : (1 : Int) ≤ (c1 : Int) := by omega
                clear hn1 hlen1 hp1
                go_upto_region 20 with (go_at_call 19; refine HBd.out.mono ?_; rintro e5 w5 ⟨rfl, rfl⟩)
                have hbd : Below wc.heap.size wc wc.drew := (Below.refl _ _).drew
                have hid := hi1.below hbd
                have hbwd := hb1.trans (hbd.mono hb1.size)
                have hpid := hpi.below hbd
                have k0 : wc.drew.cell? ⟨N, 0, none⟩ = some (.int .i64 pp.d) := k0
                have k1 : wc.drew.cell? ⟨N, 1, none⟩ = some (.slice pp.S pp.spots.length pp.c) := k1
                have hal := (Below.refl wc.drew.heap.size wc.drew).alloc (Nat.le_refl _) (.cells #[.int .i64 pp.d, .slice pp.S pp.spots.length pp.c] 40)
                have hpo : Posts (wc.drew.alloc (.cells #[.int .i64 pp.d, .slice pp.S pp.spots.length pp.c] 40)) (some ⟨wc.drew.heap.size, 0, none⟩) 1 [pp] := ⟨Lies.new wc.drew 40 _ (0, 0), fun x hx => by cases List.mem_singleton.1 hx; exact hpid.below hal, Nat.le_refl _, by show (1 : Nat) ≤ _; omega⟩
                have hia := hid.below hal
                have hba := hbwd.alloc hbwd.size (.cells #[.int .i64 pp.d, .slice pp.S pp.spots.length pp.c] 40)
                have HSm := Lib.hid (samelist_any (some ⟨wc.drew.heap.size, 0, none⟩) A1 1 c1 [pp] [q] (wc.drew.alloc (.cells #[.int .i64 pp.d, .slice pp.S pp.spots.length pp.c] 40)) hpo ((HP1.out.head).below (hbwd.trans (hal.mono hbwd.size))) (by rw [List.map_cons, List.map_cons, hpp]))
                have HIa := Lib.hid hia
                clear hpo hal hpid hid hia HBd hi1 hb1 hpi hN1 hbd
                have HBa := Lib.hid hba
                clear hba hbwd
                go_region_law (first
                  | (go_simp; go_at_call 15; refine HSm.out.mono ?_; rintro e6 w6 ⟨rfl, hb6⟩))
                all_goals simp only [Act.put, List.getElem_toArray, List.getElem_cons_succ, List.getElem_cons_zero, List.setIfInBounds_toArray, List.set_cons_zero, List.set_cons_succ]
                all_goals go_wp2_with (refine wpList_cut _ rfl (.tmp 82) (some (.const (.int .i64 1))) none none 22 rfl 40 _ 2 32 Try.underlying22 info_posts A1 n1 c1 rfl 1 n1 c1 ⟨_, rfl⟩ rfl rfl (by simp) (by omega) (by omega) (by omega) ?_; intro A3 hA3)
                all_goals
                  have hnx : n1 - 1 = nx.length := by have := HL1.out; omega
                  rw [hnx]
                  go_roundg (zs.length - (i + 1))
                  case measure => omega
                  case rel => exact ⟨i + 1, nx, A3, c1 - 1, it1, r1, by omega, by go_num, rfl, HP1.out.tail hA3, HIa.out.below hb6, hok1, hs1, hr1, HBa.out.trans (hb6.mono HBa.out.size)⟩
          · have hj3 : decide ((i : Int) ≥ 80) = true := decide_eq_true (by omega)
            have hj4 : decide ((80 : Int) ≤ (i : Int)) = true := decide_eq_true (by omega)
            go_wp2_with (go_at_call 7; refine (HAw.out _).mono ?_; rintro ea wa ⟨rfl, hba⟩)
            go_returns
            exact ⟨rfl, hb.trans (hba.mono hb.size)⟩
        · have hj1 : decide ((i : Int) < (zs.length : Int)) = false := decide_eq_false (by omega)
          go_wp2_with (go_at_call 7; refine (HAw.out _).mono ?_; rintro ea wa ⟨rfl, hba⟩)
          go_returns
          exact ⟨rfl, hb.trans (hba.mono hb.size)⟩
  · have hk : chkB (ls.map LPost.p) = false := by simpa using hk
    rw [chkE_no hk]
    clear hk hr2
    generalize (encV (ls.map LPost.p)).length = en at *
    go_wp2_with fail
    refine HF.out.mono ?_
    rintro e3 w3 ⟨⟨b, rfl⟩, rfl⟩
    cases b with
    | false =>
      go_wp2_with (go_at_call 7; refine (HAw.out _).mono ?_; rintro ea wa ⟨rfl, hba⟩)
      go_returns
      exact ⟨rfl, hb2.trans (hba.mono hb2.size)⟩
    | true =>
      go_wp2_with (go_at_call 7; refine (HAw.out _).mono ?_; rintro ea wa ⟨rfl, hba⟩)
      go_returns
      exact ⟨rfl, hb2.trans (hba.mono hb2.size)⟩
end Go.Proofs.Ytbeejmedekgjjaa
