/- A crash: the walk.
   A new device: the walk. -/
import Derived.Test.YtjfpanamkkdebaaMaB
import Derived.Deep.RegionHeld3
namespace Go.Proofs.Ytjfpanamkkdebaa
open Go.RowKit Go.Maps
set_option linter.unusedVariables false
set_option maxRecDepth 100000
set_option linter.unusedSimpArgs false
theorem lies_only {w w' : World} {A : Option Addr} {vs : List Value} {S : List Nat} (h : Lies w A vs) (ho : Only w w' S) (hA : ∀ a, A = some a → vs ≠ [] → a.block ∉ S) : Lies w' A vs := by
  intro k v hk
  obtain ⟨a, rfl, hc⟩ := h k v hk
  have hl := World.block_lt_of_cell? _ _ hc
  refine ⟨a, rfl, ?_⟩
  have hb := ho.block (a.add k).block hl (by have := hA a rfl (fun e0 => by rw [e0] at hk; simp at hk); unfold Addr.add; split <;> exact this)
  simp only [World.cell?, hb] at hc ⊢
  exact hc
theorem OI.only {w w' : World} {base : Nat} {v : Value} {l : List Int} {S : List Nat} (h : OI w base v l) (ho : Only w w' S) (hS : ∀ i ∈ S, i < base) : OI w' base v l := by
  refine ⟨h.1, ?_⟩
  rcases h.2 with hn | ⟨g, cap, cur, hv, h1, h2, h3⟩
  · exact .inl hn
  · exact .inr ⟨g, cap, cur, hv, h1, (ho.block g (blk_lt h2) (fun e => by have := hS g e; omega)).trans h2, h3⟩
set_option maxHeartbeats 800000 in
theorem full_at (s : List UInt8) (w : World) (hs : s.length ≤ 128) :
    Calls Try.prog 34 #[.string (str s)] w fun e w' => e = .returned (.slice (some ⟨w.heap.size, 0, none⟩) 128 128) ∧ (∀ C, RB w' (some ⟨w.heap.size, C, none⟩) ((pad s).drop C)) ∧ Below w.heap.size w w' := by
  have HML : Hid (maxLen = 9223372036854775807) := rfl
  go_enter Try.func34, Try.ntmps34
  go_wp2_with (first
    | (refine wpList_mk _ rfl _ _ 29 rfl w.heap.size 5 _ 1 Try.underlying29 info_u8 rfl _ _ _ _ 128 128 rfl rfl (by rfl) (by rfl) (by omega) (by omega) (by rw [HML.out]; omega) (Nat.le_refl _) ?_; intro w1 hown1 hg1)
    | (refine wpList_copy_str _ rfl _ _ _ _ rfl w.heap.size 5 Try.underlying29 (by rfl) w.heap.size 128 128 _ rfl hown1 (str s) rfl (by rw [str_size]; omega) ?_; intro w2 hown2 hg2))
  go_ret
  have hb1 : Below w.heap.size w w1 := (Below.refl _ _).grown hg1 (Nat.le_refl _) (by intro k hk; cases hk)
  have hb2 := hb1.grown hg2 hb1.size (by intro k hk; injection hk with hk; omega)
  have ho : OB w2 w.heap.size (.slice (some ⟨w.heap.size, 0, none⟩) 128 128) (pad s) := by
    refine OB.mk hown2 (by rw [pad_length hs]) ?_
    rw [bc_map, str_toList, str_size, List.drop_replicate]
    simp [pad, vb]
  have hr := RB.of_own ho
  refine ⟨rfl, fun C j u hj => ?_, hb2⟩
  have hj2 : ((pad s).map vb)[C + j]? = some u := by rw [List.map_drop, List.getElem?_drop] at hj; exact hj
  obtain ⟨a, ha, hc⟩ := hr (C + j) u hj2
  injection ha with ha
  subst ha
  refine ⟨_, rfl, ?_⟩
  rw [Addr.add_lit] at hc ⊢
  simpa using hc
set_option maxHeartbeats 3200000 in
theorem crash_any (g k m c : Nat) (d : Dsk) (A : Option Addr) (cc : Nat) (keep : List Int) (torn cut : Int) (w : World) (h : DkAt w g k m c d) (hr : Lies w A (keep.map (Value.int .i64))) (hAk : ∀ a, A = some a → keep ≠ [] → a.block ∉ [g, k, m]) (hm : keep.length ≤ 9223372036854775807) :
    Calls Try.prog 20 #[.pointer (some ⟨g, 0, none⟩), .slice A keep.length cc, .int .i64 torn, .int .i64 cut] w fun e w' => e = .returned (.int .i64 0) ∧ DkAt w' g k m c (d.crashed keep torn cut) ∧ Only w w' [g, k, m] := by
  have HS := Lib.hid (size_any g k m c d w h)
  have HLs := Lib.hid (loose_any g k m c d w h)
  have h0 := h.ok.pos
  have hN := h.ok.most
  have hq0 : ((d.kept.length : Int) == 0) = false := by rw [beq_eq_false_iff_ne]; omega
  have HD := Lib.hid h
  have HR := Lib.hid hr
  obtain ⟨l1, l2, l3⟩ := h.lt
  have hC : ((cutOf cut : Nat) : Int) = min (max cut 0) 128 := by unfold cutOf; omega
  obtain ⟨M, hM1, hM2⟩ : ∃ M : Int, (if cut < 0 then (0 : Int) else cut) = M ∧ (if 128 < M then 128 else M) = ((cutOf cut : Nat) : Int) := ⟨_, rfl, by rw [hC]; split <;> split <;> omega⟩
  have hC2 := cutOf_le cut
  have HOk := Lib.hid (h.ok.crashed keep torn cut)
  unfold Dsk.crashed at HOk ⊢
  rw [← partly_end] at HOk ⊢
  obtain ⟨L, hL⟩ : ∃ L, L = d.looseL := ⟨_, rfl⟩
  rw [← hL] at HLs HOk ⊢
  generalize cutOf cut = C at hC hM2 hC2 HOk ⊢
  have hnd := looseN_nodup d.loose d.kept.length
  rw [← looseL_eq, ← hL] at hnd
  have hle := looseN_len d.loose d.kept.length
  rw [← looseL_eq, ← hL] at hle
  have hat : ∀ x ∈ L, ∃ i : Nat, x = (i : Int) ∧ i < d.kept.length ∧ ∃ s, d.loose i = some s := fun x hx => looseL_at (hL ▸ hx)
  clear h hr hC hL
  go_enter Try.func20, Try.ntmps20
  go_wp2_with (first
    | (go_at_call 11; refine HS.out.mono ?_; rintro e w' ⟨rfl, rfl⟩)
    | (go_at_call 45; refine HLs.out.mono ?_; rintro e w2 ⟨v2, rfl, ho2, hb2⟩; obtain ⟨A2, c2, rfl, hl2, hA2⟩ := ho2.form))
  have hd2 : DkAt w2 g k m c { d with kept := partly d keep torn C [] } := by rw [partly_start]; exact HD.out.below hb2
  clear HLs HS
  go_loopg [21] L.length (fun r i wr => ∃ j : Nat, j + r = L.length ∧ i = .int .i64 j ∧ DkAt wr g k m c { d with kept := partly d keep torn C (L.take j) } ∧ OI wr w.heap.size (.slice A2 L.length c2) L ∧ Only w wr [g, k, m])
  case atStart => exact ⟨0, by omega, rfl, hd2, ho2, .of_below hb2 _⟩
  case round =>
    clear hd2 ho2
    obtain ⟨j, hj, rfl, hd, ho, how⟩ := hrel
    by_cases hjk : j < L.length
    · obtain ⟨i, hi, hin, s, hs⟩ := hat L[j] (List.getElem_mem hjk)
      obtain ⟨a, rfl, hc⟩ := (RI.of_own ho).at (k := j) (by simpa using hjk)
      rw [List.getElem_map, hi] at hc
      have htk : L.take (j + 1) = L.take j ++ [(i : Int)] := by rw [← hi]; simp
      have hnt : (i : Int) ∉ L.take j := by rw [← hi]; exact not_taken hnd hjk
      have hst := partly_step d keep torn C (L.take j) i
      have hpl := partly_length d keep torn C (L.take j)
      have hpa := partly_at d keep torn C (L.take j) i hin hnt
      have hAf : Hid (d.after keep torn C i = if (i : Int) = torn then s.take C ++ (pad (d.kept.getD i [])).drop C else if (i : Int) ∈ keep then s else d.kept.getD i []) := by show _ = _; unfold Dsk.after; rw [hs]
      have hal := HD.out.ok.after keep torn hC2 i
      have k3 := hd.c3
      have k4 := hd.c4
      have him : i < (partly d keep torn C (L.take j)).length := by omega
      have hk := World.ownsRow.cellAt hd.row i (by rw [Nat.mul_one]; exact him)
      have hf := World.ownsRow.frozenAt hd.row i
      have hks := Lib.hid (hd.keptSet him hal)
      have hsa := partly_same d keep torn C (L.take j) i hin hnt
      rw [← hst, ← htk] at hks
      rw [← htk] at hsa
      have hlk := hd.map.get (by rw [hpl]; omega) i him
      simp only [hpl] at k3 hk
      rw [List.getElem?_map, List.getElem?_eq_getElem him, hpa] at hk
      simp only [Option.map_some] at hk
      have hKl := HD.out.ok.keptAt i
      rw [hs] at hlk
      simp only [Option.getD_some] at hlk
      have hsl := (HD.out.ok.loose i s hs).2
      generalize d.kept.getD i [] = K at hk hpa hAf hKl hsa
      unfold vs at hk
      have hj0 : (0 : Int) ≤ (j : Int) := by omega
      have hj1 : ((j : Nat) : Int) < L.length := by omega
      have hi0 : (0 : Int) ≤ (i : Int) := by omega
      have hi1 : (i : Int) < (d.kept.length : Int) := by omega
      by_cases ht : (i : Int) = torn
      · rw [if_pos ht] at hAf
        subst ht
        have hbr := Below.refl wr.heap.size wr
        have HFu := Lib.hid (full_at K wr.drew hKl)
        have how2 := Lib.hid how
        have ho2 := Lib.hid ho
        have hKS : ∀ w3, Below wr.heap.size wr w3 → DkAt (w3.setCell ⟨k, i, none⟩ (.string (str (s.take C ++ (pad K).drop C)))) g k m c { d with kept := partly d keep (i : Int) C (L.take (j + 1)) } ∧ Only w3 (w3.setCell ⟨k, i, none⟩ (.string (str (s.take C ++ (pad K).drop C)))) [k] := by
          intro w3 hb3
          have h1 := (hd.below hb3).keptSet him hal
          rw [← hst, ← htk, hAf.out] at h1
          exact h1
        have hKS := Lib.hid hKS
        clear hks
        have hdl : wr.drew.heap.size = wr.heap.size := rfl
        have hgk := hd.gk
        have hgk2 : k ≠ g := fun e => hgk e.symm
        obtain ⟨j1, j2, j3⟩ := hd.lt
        have hC0 : (0 : Int) ≤ (C : Int) := by omega
        have hC3 : (C : Int) ≤ 128 := by omega
        obtain ⟨S, hS⟩ : ∃ S, S = str s := ⟨_, rfl⟩
        rw [← hS] at hlk
        have hSz : S.size = 128 := by rw [hS, str_size, hsl]
        have hSj : Hid (∀ t, S.extract 0 C ++ str t = str (s.take C ++ t)) := fun t => by
          rw [hS]
          apply ByteArray.ext
          apply Array.ext'
          simp [str, ByteArray.data_extract, Array.toList_extract, List.extract_eq_take_drop]
        clear hsa hal hpa hnt hst how ho hd hAf hS
        by_cases h9 : C = 128
        · subst h9
          have hfin := Lib.hid (show S.extract 0 128 ++ str [] = str (s.take 128 ++ (pad K).drop 128) by
            have h1 := hSj.out []
            rw [h1, List.drop_eq_nil_of_le (by rw [pad_length hKl]; exact Nat.le_refl _)])
          have hz : (str ([] : List UInt8)).size = 0 := rfl
          go_wp2_with fail
          go_region_law (first
            | (go_simp; go_at_call 34; refine HFu.out.mono ?_; rintro e w3 ⟨rfl, hR3, hb3⟩
               have hb4 : Below wr.heap.size wr w3 := (Below.refl _ _).drew.trans hb3
               have kA : w3.cell? ⟨g, 3, none⟩ = some (.slice (some ⟨k, 0, none⟩) d.kept.length c) := (hb3.cell (p := ⟨g, 3, none⟩) j1).trans k3
               have kB : w3.cell? ⟨k, i, none⟩ = some (.string (str K)) := (hb3.cell (p := ⟨k, i, none⟩) j2).trans hk
               have kf : w3.frozen? ⟨k, i, none⟩ = false := by
                 have hf2 := hf
                 simp only [World.frozen?] at hf2 ⊢
                 rw [hb3.block k j2]
                 exact hf2
               have kc2 := RB.str (P := Try.prog) (w := w3) (src := 29) (dst := 9) Try.underlying29 Try.underlying5 Try.underlying9 (show RB w3 (some ⟨wr.heap.size, 0, none⟩) ([]) from fun j u hj => by simp at hj) 0 0 (by rfl)))
          all_goals rw [hfin.out]
          all_goals have hks := hKS.out w3 hb4
          all_goals go_wp2
          all_goals go_roundg (L.length - (j + 1))
          all_goals try omega
          all_goals exact ⟨j + 1, by omega, by go_num, hks.1, (ho2.out.below hb4).only hks.2 (fun i h => by simp at h; omega), (how2.out.trans (.of_below hb4 _)).trans (hks.2.mono (fun i h => by simp at h; simp [h]))⟩
        · have hC9 : ¬ 128 = C := fun e => h9 e.symm
          obtain ⟨T, hT⟩ : ∃ T, T = (pad K).drop C := ⟨_, rfl⟩
          have hTl : T.length = 128 - C := by rw [hT, List.length_drop, pad_length hKl]
          obtain ⟨E, hE⟩ : ∃ E, S.extract 0 C = E := ⟨_, rfl⟩
          have hEs : E.size = C := by rw [← hE, ByteArray.size_extract, hSz]; omega
          obtain ⟨R, hR⟩ : ∃ R, R = 128 - C := ⟨_, rfl⟩
          have hsum : C + R = 128 := by omega
          have hTR : T.length = R := by omega
          have hTs : (str T).size = R := by rw [str_size]; exact hTR
          have hTl2 := Lib.hid hTl
          have HT := Lib.hid hT
          clear hTl hR hT
          have hfin := Lib.hid (show E ++ str T = str (s.take C ++ (pad K).drop C) by rw [← hE, hSj.out, HT.out])
          go_wp2_with fail
          go_region_law (first
            | (go_simp; go_at_call 34; refine HFu.out.mono ?_; rintro e w3 ⟨rfl, hR3, hb3⟩
               have hb4 : Below wr.heap.size wr w3 := (Below.refl _ _).drew.trans hb3
               have kA : w3.cell? ⟨g, 3, none⟩ = some (.slice (some ⟨k, 0, none⟩) d.kept.length c) := (hb3.cell (p := ⟨g, 3, none⟩) j1).trans k3
               have kB : w3.cell? ⟨k, i, none⟩ = some (.string (str K)) := (hb3.cell (p := ⟨k, i, none⟩) j2).trans hk
               have kf : w3.frozen? ⟨k, i, none⟩ = false := by
                 have hf2 := hf
                 simp only [World.frozen?] at hf2 ⊢
                 rw [hb3.block k j2]
                 exact hf2
               have kc2 := RB.str (P := Try.prog) (w := w3) (src := 29) (dst := 9) Try.underlying29 Try.underlying5 Try.underlying9 (show RB w3 (some ⟨wr.heap.size, C, none⟩) T from (by rw [HT.out]; exact hR3 C)) (128 - C) (128 - C) hTl2.out.symm))
          all_goals rw [hfin.out]
          all_goals have hks := hKS.out w3 hb4
          all_goals go_wp2
          all_goals go_roundg (L.length - (j + 1))
          all_goals try omega
          all_goals exact ⟨j + 1, by omega, by go_num, hks.1, (ho2.out.below hb4).only hks.2 (fun i h => by simp at h; omega), (how2.out.trans (.of_below hb4 _)).trans (hks.2.mono (fun i h => by simp at h; simp [h]))⟩
      · rw [if_neg ht] at hAf
        have hqt : ((i : Int) == torn) = false := by rw [beq_eq_false_iff_ne]; exact ht
        have HCn := Lib.hid (contains_any A cc keep (i : Int) wr (lies_only HR.out how (fun a ha e0 => hAk a ha (fun e1 => e0 (by rw [e1]; rfl)))) hm)
        have how2 := Lib.hid how
        have ho2 := Lib.hid ho
        by_cases hik : (i : Int) ∈ keep
        · rw [if_pos hik] at hAf
          rw [decide_eq_true hik] at HCn
          rw [hAf.out] at hks
          clear hsa hal hAf hpa hnt hst how ho hik
          go_wp2_with (go_at_call 46; refine HCn.out.mono ?_; rintro e w' ⟨rfl, rfl⟩)
          go_roundg (L.length - (j + 1))
          case measure => omega
          case rel => exact ⟨j + 1, by omega, by go_num, hks.out.1, ho2.out.only hks.out.2 (fun i h => by simp at h; omega), how2.out.trans (hks.out.2.mono (fun i h => by simp at h; simp [h]))⟩
        · rw [if_neg hik] at hAf
          rw [decide_eq_false hik] at HCn
          have hsa := hsa hAf.out
          rw [← hsa] at hd
          have hd := Lib.hid hd
          clear hks hal hAf hpa hnt hst how ho hik hsa
          go_wp2_with (go_at_call 46; refine HCn.out.mono ?_; rintro e w' ⟨rfl, rfl⟩)
          go_roundg (L.length - (j + 1))
          case measure => omega
          case rel => exact ⟨j + 1, by omega, by go_num, hd.out, ho2.out, how2.out⟩
    · obtain rfl : j = L.length := by omega
      rw [List.take_length] at hd
      have hM := hd.map
      have k4 := hd.c4
      obtain ⟨j1, j2, j3⟩ := hd.lt
      have hgm := hd.gm
      have hgk := hd.gk
      have hkm := hd.km
      go_wp2_with (refine wpList_clear_map rfl _ rfl m _ _ rfl hM ?_; intro w4 hM4 hg4
                   have hB4 := (hg4.block g j1 (fun e => by injection e with e; exact hgm e)).trans hd.blk
                   have q0 : w4.cell? ⟨g, 0, none⟩ = _ := blk_cell hB4
                   have q1 : w4.cell? ⟨g, 1, none⟩ = _ := blk_cell hB4
                   have q2 : w4.cell? ⟨g, 2, none⟩ = _ := blk_cell hB4
                   have qf : ∀ j, w4.frozen? ⟨g, j, none⟩ = false := fun j => blk_free hB4
                   have qf0 := qf 0)
      go_returns
      have ho7 : Only w4 _ [g] := ((Only.of_grown (Lib.grownBy_setCell w4 g 0 (.bool false))).trans (Only.of_grown (Lib.grownBy_setCell _ g 1 (.int .i64 0)))).trans (Only.of_grown (Lib.grownBy_setCell _ g 2 (.bool false)))
      have ho8 := (Only.of_grown hg4).mono (T := [g, k, m]) (fun i h => by simp at h; simp [h])
      have hm4 := hg4.size
      refine ⟨rfl, ⟨?_, ?_, ?_, HOk.out, hgk, hgm, hkm⟩, (how.trans ho8).trans (ho7.mono (fun i h => by simp at h; simp [h]))⟩
      · rw [heap_setCell_same _ g 2 _ _ _ (heap_setCell_same _ g 1 _ _ _ (heap_setCell_same w4 g 0 _ _ _ hB4))]; rfl
      · exact own_block hd.row ((ho7.block k (by omega) (fun e => hgk (List.mem_singleton.1 e).symm)).trans (hg4.block k j2 (fun e => by injection e with e; exact hkm e)))
      · exact hM4.block (ho7.block m (by omega) (fun e => hgm (List.mem_singleton.1 e).symm))
end Go.Proofs.Ytjfpanamkkdebaa
namespace Go.Proofs.Ytjfpanamkkdebaa
open Go.RowKit Go.Maps
set_option linter.unusedVariables false
set_option maxRecDepth 100000
set_option linter.unusedSimpArgs false
theorem own_mono_base {w : World} {base base' : Nat} {e : TypeId} {size n : Nat} {v : Value} {xs : List Value} (h : w.ownsRow base e size v n xs) (hb : base' ≤ base) : w.ownsRow base' e size v n xs := by
  refine ⟨h.1, ?_⟩
  rcases h.2 with h | ⟨g, cap, cur, hv, hg, r⟩
  · exact .inl h
  · exact .inr ⟨g, cap, cur, hv, Nat.le_trans hb hg, r⟩
/-- A new device. -/
def fresh (n : Nat) : Dsk := ⟨false, 0, false, List.replicate n [], fun _ => none⟩
theorem fresh_ok {n : Nat} (h1 : 1 ≤ n) (h2 : n ≤ 4096) : (fresh n).Ok :=
  ⟨by simp [fresh]; omega, by simpa [fresh] using h2, fun s hs => by (rw [(List.mem_replicate.1 hs).2]; simp), fun i s h => (by cases h), by show (0 : Nat) < _; decide⟩
theorem new_not (n : Int) (w : World) (h : n < 1 ∨ 4096 < n) :
    Calls Try.prog 9 #[.int .i64 n] w fun e w' => e = .returned (.tuple #[.pointer none, .int .i64 1]) ∧ w = w' := by
  by_cases h1 : n < 1
  · have hq : decide (n < 1) = true := decide_eq_true h1
    go_enter Try.func9, Try.ntmps9
    go_wp2
    go_ret2
    exact ⟨rfl, rfl⟩
  · have hq : decide (n < 1) = false := decide_eq_false h1
    have hq2 : decide (n > 4096) = true := decide_eq_true (by omega)
    have hq3 : decide (4096 < n) = true := decide_eq_true (by omega)
    go_enter Try.func9, Try.ntmps9
    go_wp2
    go_ret2
    exact ⟨rfl, rfl⟩
set_option maxHeartbeats 800000 in
theorem new_any (n : Nat) (w : World) (h1 : 1 ≤ n) (h2 : n ≤ 4096) :
    Calls Try.prog 9 #[.int .i64 n] w fun e w' => ∃ g k m, e = .returned (.tuple #[.pointer (some ⟨g, 0, none⟩), .int .i64 0]) ∧ DkAt w' g k m n (fresh n) ∧ Below w.heap.size w w' ∧ w.heap.size ≤ g ∧ w.heap.size ≤ k ∧ w.heap.size ≤ m := by
  have hq : decide ((n : Int) < 1) = false := decide_eq_false (by omega)
  have hq2 : decide ((n : Int) > 4096) = false := decide_eq_false (by omega)
  have hq3 : decide ((4096 : Int) < n) = false := decide_eq_false (by omega)
  have HML : Hid (maxLen = 9223372036854775807) := rfl
  have HF := Lib.hid (fresh_ok h1 h2)
  have hmm := @run_makeMap Try.prog
  go_enter Try.func9, Try.ntmps9
  go_wp2_with (refine wpList_mk _ rfl _ _ 76 rfl w.heap.size 9 _ 16 Try.underlying76 info_str rfl _ _ _ _ n n rfl rfl (by rfl) (by rfl) (by omega) (by omega) (by rw [HML.out]; omega) (Nat.le_refl _) ?_; intro w1 hown1 hg1)
  go_ret2
  obtain ⟨_, hkl⟩ := World.ownsRow.lt hown1 w.heap.size rfl
  have hs1 := hg1.size
  have eW : (w1.alloc (.map #[] 0)).heap.size = w1.heap.size + 1 := by simp
  have hb1 : Below w.heap.size w w1 := (Below.refl _ _).grown hg1 (Nat.le_refl _) (by intro k hk; cases hk)
  have hb3 := (hb1.alloc hs1 (.map #[] 0)).alloc (by rw [eW]; omega) (.cells #[.bool false, .int .i64 0, .bool false, .slice (some ⟨w.heap.size, 0, none⟩) n n, .map (some w1.heap.size)] 81)
  refine ⟨w1.heap.size + 1, w.heap.size, w1.heap.size, rfl, ⟨?_, ?_, ?_, HF.out, by omega, by omega, by omega⟩, hb3, by omega, Nat.le_refl _, hs1⟩
  · have h := heap_alloc_new (w1.alloc (.map #[] 0)) (.cells #[.bool false, .int .i64 0, .bool false, .slice (some ⟨w.heap.size, 0, none⟩) n n, .map (some w1.heap.size)] 81)
    rw [eW] at h
    simpa [fresh] using h
  · have h := own_mono_base (base' := 0) (World.ownsRow.alloc (World.ownsRow.alloc hown1 (.map #[] 0)) (.cells #[.bool false, .int .i64 0, .bool false, .slice (some ⟨w.heap.size, 0, none⟩) n n, .map (some w1.heap.size)] 81)) (Nat.zero_le _)
    have hv : vs [] = .string ByteArray.empty := rfl
    simpa [fresh, hv] using h
  · have h := (mapIs_made w1 n).below (w' := (w1.alloc (.map #[] 0)).alloc (.cells #[.bool false, .int .i64 0, .bool false, .slice (some ⟨w.heap.size, 0, none⟩) n n, .map (some w1.heap.size)] 81)) ((Below.refl _ _).alloc (Nat.le_refl _) _)
    simpa [fresh] using h
theorem lies_alloc (w : World) (l : List Value) (t : TypeId) (f : Nat × Nat) : Lies (w.alloc (.cells l.toArray t f)) (some ⟨w.heap.size, 0, none⟩) l := Lies.new w t l f
theorem write_lit (g k m c : Nat) (d : Dsk) (i : Int) (bs : List UInt8) (w : World) (h : DkAt w g k m c d) (hm : bs.length ≤ 9223372036854775807) (cells : Array Value) (hc : cells = (bs.map vb).toArray) (t : TypeId) (f : Nat × Nat) (n : Nat) (hn : n = bs.length) :
    Calls Try.prog 10 #[.pointer (some ⟨g, 0, none⟩), .int .i64 i, .slice (some ⟨w.heap.size, 0, none⟩) n n] (w.alloc (.cells cells t f)) fun e w' => e = .returned (.int .i64 (d.writeE i bs)) ∧ DkAt w' g k m c (d.wrote i bs) ∧ Only w w' [g, k, m] := by
  subst hn
  subst hc
  have hb : Below w.heap.size w (w.alloc (.cells (bs.map vb).toArray t f)) := (Below.refl _ _).alloc (Nat.le_refl _) _
  refine (write_any g k m c d i (some ⟨w.heap.size, 0, none⟩) bs.length bs _ (h.below hb) (lies_alloc w (bs.map vb) t f) ?_ hm).mono ?_
  · intro a ha _
    injection ha with ha
    subst ha
    have := h.lt.1
    simp only
    omega
  · rintro e w' ⟨he, hd, ho⟩
    exact ⟨he, hd, (Only.of_below hb _).trans (ho.mono (fun i h => by simp at h; rcases h with h | h <;> simp [h]))⟩
end Go.Proofs.Ytjfpanamkkdebaa
