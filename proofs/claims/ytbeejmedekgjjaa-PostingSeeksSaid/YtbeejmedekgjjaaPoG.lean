/- Postings as bytes: the walk of Encode. -/
import Derived.Test.YtbeejmedekgjjaaPoF
import Derived.RangeFuncCalls
import Derived.Shelf.RegionOpen
import Derived.Test.YtbeejmedekgjjaaRnd
namespace Go.Proofs.Ytbeejmedekgjjaa
open Go.RowKit Go.Shelf
set_option linter.unusedVariables false
set_option linter.unusedSimpArgs false
attribute [local go_sem] Oper.semAt_some
theorem encode_no (A : Option Addr) (c : Nat) (ls : List LPost) (w : World) (h : Posts w A c ls) (hk : chkB (ls.map LPost.p) = false) :
    Calls Try.prog 8 #[.slice A ls.length c] w fun e w' => e = .returned (.tuple #[.slice none 0 0, .int .i64 1]) ∧ Below w.heap.size w w' := by
  have HC := Lib.hid (check_any A c ls w h)
  rw [chkE_no hk] at HC
  clear h hk
  go_enter Try.func8, Try.ntmps8
  go_wp2_with (go_at_call 13; refine HC.out.mono ?_; rintro e w1 ⟨rfl, hb1⟩)
  go_returns
  exact ⟨rfl, hb1⟩
theorem below_others {W W' : World} (h : Below W.heap.size W W') : KeepsOthers W W' := ⟨h.size, fun k o hk _ => (h.block k (Array.getElem?_eq_some_iff.1 hk).1).trans hk⟩
theorem held_below {Bs Bn : Nat} {A B : World} (h : Below A.heap.size A B) (hs : Bs < A.heap.size) (hn : Bn < A.heap.size) : Held2 Bs Bn A B := ⟨h.block _ hs, h.block _ hn⟩
theorem held_set {Bs Bn b : Nat} {A : World} {v : Value} (hs : Bs < A.heap.size) (hn : Bn < A.heap.size) (h1 : Bs ≠ b) (h2 : Bn ≠ b) : Held2 Bs Bn A (A.setCell ⟨b, 0, none⟩ v) :=
  ⟨(grownBy_setCell' A b v).block _ hs (by intro e; injection e with e; exact h1 e), (grownBy_setCell' A b v).block _ hn (by intro e; injection e with e; exact h2 e)⟩
theorem held_size {Bs Bn n : Nat} {A B : World} (hA : n ≤ A.heap.size) (h : A.heap.size ≤ B.heap.size) : n ≤ B.heap.size := Nat.le_trans hA h
set_option maxRecDepth 100000 in
set_option maxHeartbeats 3200000 in
theorem encode_ok (A : Option Addr) (c : Nat) (ls : List LPost) (w : World) (h : Posts w A c ls) (hk : chkB (ls.map LPost.p) = true) :
    Calls Try.prog 8 #[.slice A ls.length c] w fun e w' => ∃ v, e = .returned (.tuple #[v, .int .i64 0]) ∧ OB w' w.heap.size v (encB (ls.map LPost.p)) ∧ Below w.heap.size w w' := by
  have HC := Lib.hid (check_any A c ls w h)
  rw [chkE_ok hk] at HC
  have hlen : ls.length ≤ 65536 := by have := chkB_len hk; rwa [List.length_map] at this
  have HNm := Lib.hid (fun w2 => num_any none 0 [] (ls.length : Int) w2 (by simp) (by omega) (fun _ => rfl) (by simp) (fun k v hk => by simp at hk))
  rw [numNat_nat] at HNm
  have HP := Lib.hid h
  have HF := Lib.hid (chkFrom_fits _ _ hk).1
  have hA : A = none → ls.length = 0 := by
    intro e
    subst e
    cases ls with
    | nil => rfl
    | cons p ls => obtain ⟨a, ha, _⟩ := h.li 0 _ rfl; cases ha
  obtain ⟨a, ha⟩ : ∃ a : Addr, ∀ b, A = some b → b = a := by
    cases A with
    | none => exact ⟨⟨0, 0, none⟩, fun b e => by cases e⟩
    | some a => exact ⟨a, fun b e => by cases e; rfl⟩
  have hlc := h.c
  have HAl := Lib.hid hA
  have HAa := Lib.hid ha
  clear h hk hA ha
  refine (callsIn_wide (n := 5)).1 ?_
  refine callsIn_of_wp_marks Try.func8 rfl trivial ?_ rfl
  simp only [Try.ntmps8, List.size_toArray, List.length_cons, List.length_nil, Nat.reduceAdd, Nat.reduceSub, Array.replicate_succ, Array.replicate_zero, List.push_toArray, List.append_toArray, List.nil_append, List.cons_append]
  gi_wp2_with (first
    | (refine ⟨trivial, ?_⟩; gi_at_call 13; refine (callsIn_wide.2 HC.out).mono ?_; rintro e w1 ⟨rfl, hb1⟩)
    | (refine ⟨trivial, ?_⟩; gi_at_call 20; refine (callsIn_wide.2 (HNm.out _)).mono ?_; rintro e w2 ⟨v2, rfl, hv2, hb2⟩; obtain ⟨A2, c2, rfl, hc2, hn2⟩ := hv2.form)
    | (refine ⟨trivial, ?_⟩; gi_at_call 21; refine (chunk_in _ _ _ _ _).mono ?_; rintro e w3 ⟨rfl, rfl⟩))
  obtain ⟨N0, hN0⟩ : ∃ N0, numBytes ls.length = N0 := ⟨_, rfl⟩
  rw [List.nil_append, hN0] at hv2 hc2
  rw [hN0]
  have hs1 := hb1.size
  have hs2 := hb2.size
  have hb02 : Below w.heap.size w w2 := hb1.trans (hb2.mono hs1)
  have b5 := Boxed.new w2 23 (.slice A2 N0.length c2)
  have b6 := Boxed.new (w2.alloc (.cells #[.slice A2 N0.length c2] 23)) 3 (.int .i64 (-1))
  have bS := Boxed.new ((w2.alloc (.cells #[.slice A2 N0.length c2] 23)).alloc (.cells #[.int .i64 (-1)] 3)) 22 (.slice A ls.length c)
  have bN := Boxed.new (((w2.alloc (.cells #[.slice A2 N0.length c2] 23)).alloc (.cells #[.int .i64 (-1)] 3)).alloc (.cells #[.slice A ls.length c] 22)) 3 (.int .i64 4)
  have e5 : (w2.alloc (.cells #[.slice A2 N0.length c2] 23)).heap.size = w2.heap.size + 1 := by simp
  have e6 : ((w2.alloc (.cells #[.slice A2 N0.length c2] 23)).alloc (.cells #[.int .i64 (-1)] 3)).heap.size = w2.heap.size + 1 + 1 := by simp
  have e7 : (((w2.alloc (.cells #[.slice A2 N0.length c2] 23)).alloc (.cells #[.int .i64 (-1)] 3)).alloc (.cells #[.slice A ls.length c] 22)).heap.size = w2.heap.size + 1 + 1 + 1 := by simp
  rw [e5] at b6
  rw [e6] at bS
  rw [e7] at bN
  have b5 := ((b5.alloc (.cells #[.int .i64 (-1)] 3)).alloc (.cells #[.slice A ls.length c] 22)).alloc (.cells #[.int .i64 4] 3)
  have b6 := (b6.alloc (.cells #[.slice A ls.length c] 22)).alloc (.cells #[.int .i64 4] 3)
  have bS := bS.alloc (.cells #[.int .i64 4] 3)
  have hbw : Below w2.heap.size w2 ((((w2.alloc (.cells #[.slice A2 N0.length c2] 23)).alloc (.cells #[.int .i64 (-1)] 3)).alloc (.cells #[.slice A ls.length c] 22)).alloc (.cells #[.int .i64 4] 3)) :=
    ((((Below.refl _ _).alloc (Nat.le_refl _) _).alloc (by omega) _).alloc (by omega) _).alloc (by omega) _
  have hv5 := (hv2.mono hs1).below hbw
  have hsz : (((w2.alloc (.cells #[.slice A2 N0.length c2] 23)).alloc (.cells #[.int .i64 (-1)] 3)).alloc (.cells #[.slice A ls.length c] 22)).heap.size + 1 = ((((w2.alloc (.cells #[.slice A2 N0.length c2] 23)).alloc (.cells #[.int .i64 (-1)] 3)).alloc (.cells #[.slice A ls.length c] 22)).alloc (.cells #[.int .i64 4] 3)).heap.size := by simp
  rw [e7] at hsz
  have hbW := hb02.trans (hbw.mono (Nat.le_trans hs1 hs2))
  generalize (((w2.alloc (.cells #[.slice A2 N0.length c2] 23)).alloc (.cells #[.int .i64 (-1)] 3)).alloc (.cells #[.slice A ls.length c] 22)).alloc (.cells #[.int .i64 4] 3) = W0 at b5 b6 bS bN hv5 hsz hbW ⊢
  obtain ⟨B5, hB5⟩ : ∃ B5, w2.heap.size = B5 := ⟨_, rfl⟩
  rw [hB5] at b5 b6 bS bN hsz hs2 ⊢
  have hn5 : w.heap.size ≤ B5 := by omega
  clear hB5 e5 e6 e7 hbw hv2 hb1 hb2 hb02 hs1 hs2
  refine wpIn_rangeFunc_ownG rfl (by omega) (gf := 42) (lb := #[.pointer (some ⟨B5 + 1 + 1, 0, none⟩), .pointer (some ⟨B5 + 1 + 1 + 1, 0, none⟩)]) rfl trivial (enters_of Try.func42 (by kernel_rfl) rfl)
    (chunk_stops 4 (by omega) (B5 + 1 + 1) (B5 + 1 + 1 + 1) A ls.length c hlc hlen HAl.out a HAa.out W0 (by omega) (by omega) bS.cell bN.cell) Held2.trans (held2_b (by omega) (by omega)) (Below.refl _ _) (fun _ => rfl)
    (fun (pre : List (Chunk ls.length)) W => ((∃ v, Boxed W B5 23 v ∧ W.ownsRow w.heap.size 5 1 v (foldB (ls.map LPost.p) (pre.map (·.1))).2.length ((foldB (ls.map LPost.p) (pre.map (·.1))).2.map vb) ∧ True) ∧ Boxed W (B5 + 1) 3 (.int .i64 (foldB (ls.map LPost.p) (pre.map (·.1))).1)) ∧ Below w.heap.size w W ∧ B5 + 1 + 1 + 1 < W.heap.size)
    (fun _ _ _ => False)
    (OwnFrom.and (OwnFrom.and (Own.from (holdsRow_own w.heap.size B5 23 5 1 (fun (pre : List (Chunk ls.length)) => (foldB (ls.map LPost.p) (pre.map (·.1))).2.length) (fun (pre : List (Chunk ls.length)) => (foldB (ls.map LPost.p) (pre.map (·.1))).2.map vb) (fun _ _ => True)) _) (Own.from (boxed_own (B5 + 1) 3 (fun (pre : List (Chunk ls.length)) => .int .i64 (foldB (ls.map LPost.p) (pre.map (·.1))).1)) _)) (OwnFrom.and (ownFrom_below (Nat.le_refl _) (by omega)) (fun s X Y row h hg hr => Nat.lt_of_lt_of_le h hg.size)))
    (fun _ _ _ _ _ hs _ _ => hs)
    ⟨⟨⟨_, b5, by simpa [foldB, hN0, OB] using hv5, trivial⟩, b6⟩, hbW, by omega⟩
    (fun x => { tmps := #[.slice A ls.length c, undef, .slice none 0 0, .int .i64 0, .int .i64 0, .pointer (some ⟨B5, 0, none⟩), .pointer (some ⟨B5 + 1, 0, none⟩), chunkV a ls.length x.1, undef, undef, undef, undef, .slice A ls.length c, .int .i64 0, .int .i64 0, .bool false, undef, .slice A ls.length c, .int .i64 ls.length, .slice A2 N0.length c2, .slice A ls.length c, .func (.func 42) #[] #[.pointer (some ⟨B5 + 1 + 1, 0, none⟩), .pointer (some ⟨B5 + 1 + 1 + 1, 0, none⟩)], chunkV a ls.length x.1, undef, undef, undef, undef, undef, undef, undef, undef, undef, undef, undef, undef, undef, undef, undef, undef, undef, undef, undef, undef, undef, undef, undef, undef], defers := [] }) ?assign ?body ?done ?stop
  case assign =>
    intro l x W K hK
    gi_wp2
    exact hK
  case body =>
    rintro l pre ⟨i, hi⟩ W ⟨⟨⟨v, hv5, hrow, _⟩, hv6⟩, hB, hWs⟩ hlt
    have hbd := foldB_bounds HF.out (pre.map (·.1))
    rw [List.length_map] at hbd
    have hsn : foldB (ls.map LPost.p) ((pre ++ [(⟨i, hi⟩ : Chunk ls.length)]).map (·.1)) = stepB (ls.map LPost.p) (foldB (ls.map LPost.p) (pre.map (·.1))) i := by rw [List.map_append]; exact foldB_snoc _ _ _
    generalize foldB (ls.map LPost.p) (pre.map (·.1)) = S at hv6 hrow hbd hsn
    obtain ⟨last0, X⟩ := S
    obtain ⟨hl0, hl1, hXl⟩ := hbd
    have hXl : X.length ≤ 200000000 := by have : X.length ≤ 9 + 9018 * pre.length := hXl; omega
    obtain ⟨Av, cv, rfl, hcv, hnv⟩ := OB.form hrow
    obtain ⟨e, he⟩ : ∃ e, chunkLen ls.length i = e := ⟨_, rfl⟩
    have he2 : e = min 4 (ls.length - i) := he.symm
    have hct : ((ls.map LPost.p).drop i).take 4 = ((ls.drop i).take e).map LPost.p := by
      rw [← List.map_drop, ← List.map_take]
      congr 1
      apply List.ext_getElem?
      intro q
      rw [List.getElem?_take, List.getElem?_take, List.getElem?_drop]
      by_cases hq : q < 4
      · rw [if_pos hq]
        by_cases hq2 : q < e
        · rw [if_pos hq2]
        · rw [if_neg hq2, List.getElem?_eq_none (by omega)]
      · rw [if_neg hq, if_neg (by omega)]
    dsimp only [chunkV]
    rw [he]
    have hc6 := hv6.cell
    have hc5 := hv5.cell
    have HSn := Lib.hid hsn
    have HCt := Lib.hid hct
    have he3 : e ≤ 4 := by omega
    have he4 : i + e ≤ ls.length := by omega
    have HE := Lib.hid he2
    clear hsn hct he he2
    gi_wp2
    gi_loopw [8, 26] (fun s8 s26 wr => ∃ j : Nat, j ≤ e ∧ s26 = .int .i64 j ∧ OB wr w.heap.size s8 (runBytes last0 (((ls.drop i).take j).map LPost.p)) ∧ Boxed wr (B5 + 1) 3 (.int .i64 (lastD last0 (((ls.drop i).take j).map LPost.p))) ∧ Boxed wr B5 23 (.slice Av X.length cv) ∧ OB wr w.heap.size (.slice Av X.length cv) X ∧ Below w.heap.size w wr ∧ KeepsOthers W wr ∧ Held2 (B5 + 1 + 1) (B5 + 1 + 1 + 1) W wr ∧ B5 + 1 + 1 + 1 < wr.heap.size)
      (fun _ s26 _ => e - (intOf s26).toNat)
    case atStart => exact ⟨0, Nat.zero_le _, rfl, World.ownsRow_nil _ _ _ _, hv6, hv5, hrow, hB, KeepsOthers.refl _, Held2.refl _ _ _, hWs⟩
    case round =>
      clear hv6 hv5 hrow hB hc6 hc5
      obtain ⟨j, hj, rfl, hin, hv6, hv5, hrow, hB, hK, hH, hws⟩ := hrel
      by_cases hjl : j < e
      · have hij : i + j < ls.length := by omega
        obtain ⟨a', ha', hc'⟩ := flat_get pk_length (by decide) (HP.out.li.below hB) (i + j) hij
        obtain rfl := HAa.out a' ha'
        clear ha'
        have hk := (HP.out.i _ (List.getElem_mem hij)).below hB
        have hft := HF.out (LPost.p ls[i + j]) (List.mem_map_of_mem (List.getElem_mem hij))
        have hT : ((ls.drop i).take (j + 1)).map LPost.p = ((ls.drop i).take j).map LPost.p ++ [LPost.p ls[i + j]] := by
          rw [take_snoc (by rw [List.length_drop]; omega), List.map_append, List.getElem_drop]; rfl
        have hcl : ((ls.drop i).take j).length ≤ 4 := by rw [List.length_take]; omega
        have hfs : ∀ q ∈ ((ls.drop i).take j).map LPost.p, fitsB q = true := fun q hq => by
          obtain ⟨q', hq', rfl⟩ := List.mem_map.1 hq
          exact HF.out _ (List.mem_map_of_mem (List.mem_of_mem_drop (List.mem_of_mem_take hq')))
        have hrl := runBytes_le _ last0 hfs
        obtain ⟨hb0, hb1⟩ := lastD_bounds hfs hl0 hl1
        rw [List.length_map] at hrl
        generalize ls[i + j] = p at hc' hk hft hT
        have hTr := runBytes_snoc (((ls.drop i).take j).map LPost.p) (LPost.p p) last0
        have hTl := lastD_snoc last0 (((ls.drop i).take j).map LPost.p) (LPost.p p)
        rw [← hT] at hTr hTl
        generalize runBytes last0 (((ls.drop i).take j).map LPost.p) = Y at hin hTr hrl
        generalize lastD last0 (((ls.drop i).take j).map LPost.p) = last1 at hv6 hTr hb0 hb1
        have HTr := Lib.hid hTr
        have HTl : Hid (lastD last0 (((ls.drop i).take (j + 1)).map LPost.p) = p.d) := hTl
        have hYl : Y.length ≤ 140737488350000 := by omega
        obtain ⟨Ay, cy, rfl, hcy, hny⟩ := OB.form hin
        have c0 : wr.cell? ((a'.add (i * 2)).add (j * 2)) = some (.int .i64 p.d) := by
          have := hc' 0 _ rfl
          rw [Addr.add_add, show i * 2 + j * 2 = (i + j) * 2 by omega]
          simpa [Addr.add] using this
        have c1 : wr.cell? ⟨((a'.add (i * 2)).add (j * 2)).block, ((a'.add (i * 2)).add (j * 2)).off + 1, none⟩ = some (.slice p.S p.spots.length p.c) := by
          have := hc' 1 _ rfl
          have e1 : ((a'.add (i * 2)).add (j * 2)).add 1 = (a'.add ((i + j) * 2)).add 1 := by rw [Addr.add_add a', show i * 2 + j * 2 = (i + j) * 2 by omega]
          show wr.cell? (((a'.add (i * 2)).add (j * 2)).add 1) = _
          rw [e1]
          exact this
        have hc6 := hv6.cell
        have hf6 := hv6.frozen
        have q1 : decide ((j : Int) < (e : Int)) = true := decide_eq_true (by omega)
        clear hT hcl hfs hrl hTr hTl hc'
        have hP := fun (W5 : World) (hb5 : Below wr.heap.size wr W5) => put_any Ay cy Y p last1 W5 hYl hny hcy ((RB.of_own hin).below hb5) (hk.below hb5) hft hb0 (by omega)
        have HPt := Lib.hid hP
        clear hP hft hk
        have h6a := hv6.alloc (.cells #[.int .i64 p.d, .slice p.S p.spots.length p.c] 40)
        have h5a := hv5.alloc (.cells #[.int .i64 p.d, .slice p.S p.spots.length p.c] 40)
        have c6a := h6a.cell
        have z0 : (wr.alloc (.cells #[.int .i64 p.d, .slice p.S p.spots.length p.c] 40)).cell? ⟨wr.heap.size, 0, none⟩ = some (.int .i64 p.d) := by go_cell
        have z1 : (wr.alloc (.cells #[.int .i64 p.d, .slice p.S p.spots.length p.c] 40)).cell? ⟨wr.heap.size, 1, none⟩ = some (.slice p.S p.spots.length p.c) := by go_cell
        have hba : Below wr.heap.size wr (wr.alloc (.cells #[.int .i64 p.d, .slice p.S p.spots.length p.c] 40)) := (Below.refl _ _).alloc (Nat.le_refl _) _
        have hsa : wr.heap.size < (wr.alloc (.cells #[.int .i64 p.d, .slice p.S p.spots.length p.c] 40)).heap.size := by simp
        gi_wp2_with (refine ⟨trivial, ?_⟩; gi_at_call 22; refine (CallsIn.inRound l (callsIn_wide.2 (HPt.out _ hba))).mono ?_; rintro e7 w7 ⟨v7, rfl, hv7, hb7⟩
                     have hg7 : World.grownBy (wr.alloc (.cells #[.int .i64 p.d, .slice p.S p.spots.length p.c] 40)) w7 none := ⟨hb7.os, hb7.tape, hb7.output, hb7.size, fun k hk _ => hb7.block k hk⟩
                     have h67 := h6a.kept hg7 (by simp)
                     have h57 := h5a.kept hg7 (by simp)
                     have c67 := h67.cell
                     have f67 := h67.frozen
                     have z07 : w7.cell? ⟨wr.heap.size, 0, none⟩ = some (.int .i64 p.d) := (hb7.cell (p := ⟨wr.heap.size, 0, none⟩) hsa).trans z0)
        have hbB : Below w.heap.size w (w7.setCell ⟨B5 + 1, 0, none⟩ (.int .i64 p.d)) := ((hB.trans (hba.mono hB.size)).trans (hb7.mono (Nat.le_trans hB.size hba.size))).setCell (p := ⟨B5 + 1, 0, none⟩) (by show w.heap.size ≤ B5 + 1; omega) _
        have hKK : KeepsOthers W (w7.setCell ⟨B5 + 1, 0, none⟩ (.int .i64 p.d)) := ((hK.trans (below_others hba)).trans (below_others hb7)).trans (KeepsOthers.setCell _ _ _)
        have hg6 := grownBy_setCell' w7 (B5 + 1) (.int .i64 p.d)
        have hte : (3 : Nat) ≠ 5 := by decide
        have hrow7 : OB w7 w.heap.size (.slice Av X.length cv) X := OB.below (hrow.below hba) hb7
        have hv7' := hv7.mono (Nat.le_trans hB.size hba.size)
        have hrow8 : OB (w7.setCell ⟨B5 + 1, 0, none⟩ (.int .i64 p.d)) w.heap.size (.slice Av X.length cv) X := World.ownsRow.kept hrow7 hg6 (.inr (h67.not_row hte hrow7).symm)
        have hv8 : OB (w7.setCell ⟨B5 + 1, 0, none⟩ (.int .i64 p.d)) w.heap.size v7 (Y ++ postBytes last1 p.p) := World.ownsRow.kept hv7' hg6 (.inr (h67.not_row hte hv7').symm)
        have hwa := Nat.lt_of_lt_of_le hws hba.size
        have hw7 := Nat.lt_of_lt_of_le hwa hb7.size
        have hHH : Held2 (B5 + 1 + 1) (B5 + 1 + 1 + 1) W (w7.setCell ⟨B5 + 1, 0, none⟩ (.int .i64 p.d)) := ((hH.trans (held_below hba (by omega) hws)).trans (held_below hb7 (by omega) hwa)).trans (held_set (by omega) hw7 (by omega) (by omega))
        have hw8 := Nat.lt_of_lt_of_le hw7 hg6.size
        go_roundw
        case rel => exact ⟨j + 1, by omega, by simp, by rw [HTr.out]; exact hv8, by rw [HTl.out]; exact h67.set _, h57.other (by omega) _, hrow8, hbB, hKK, hHH, hw8⟩
        case measure => simp [intOf]; omega
      · obtain rfl : j = e := by omega
        have q1 : decide ((j : Int) < (j : Int)) = false := decide_eq_false (by omega)
        rw [← HCt.out] at hin hv6
        have hfs := take_fits HF.out i
        obtain ⟨hb0, hb1⟩ := lastD_bounds hfs hl0 hl1
        have hrl := runBytes_le _ last0 hfs
        have hcl : (((ls.map LPost.p).drop i).take 4).length ≤ 4 := by rw [List.length_take]; omega
        have HSt : Hid (foldB (ls.map LPost.p) ((pre ++ [(⟨i, hi⟩ : Chunk ls.length)]).map (·.1)) = (lastD last0 (((ls.map LPost.p).drop i).take 4), X ++ (numBytes (numNat (lastD last0 (((ls.map LPost.p).drop i).take 4) - last0 - 1)) ++ textBytes (runBytes last0 (((ls.map LPost.p).drop i).take 4))))) := HSn.out
        generalize ((ls.map LPost.p).drop i).take 4 = C at hin hv6 hrl hcl hb0 hb1 HSt
        have hYl : (runBytes last0 C).length ≤ 10000 := by omega
        generalize runBytes last0 C = Y at hin hYl HSt
        generalize lastD last0 C = last1 at hv6 hb0 hb1 HSt
        obtain ⟨Ay, cy, rfl, hcy, hny⟩ := OB.form hin
        have hn1 := numBytes_le (numNat (last1 - last0 - 1))
        have hXn : (X ++ numBytes (numNat (last1 - last0 - 1))).length ≤ 200000100 := by rw [List.length_append]; omega
        have HN := Lib.hid (num_any Av cv X (last1 - last0 - 1) wr.drew (by omega) (by omega) hnv hcv (RB.of_own (OB.drew hrow)))
        generalize numBytes (numNat (last1 - last0 - 1)) = Nb at HN HSt hXn
        have kc := RB.str (P := Try.prog) (w := wr.drew) (src := 23) (dst := 9) Try.underlying23 Try.underlying5 Try.underlying9 (RB.of_own (OB.drew hin)) Y.length cy rfl
        have hsY : (str Y).size = Y.length := str_size Y
        have hsT : (str Y).data.toList = Y := str_toList Y
        have hw1 : IntKind.i64.wrap (last1 - last0) = last1 - last0 := by go_arith
        have hw2 : IntKind.i64.wrap (last1 - last0 - 1) = last1 - last0 - 1 := by go_arith
        have hw3 : wrap64 (last1 - last0) = last1 - last0 := by go_arith
        have hw4 : wrap64 (last1 - last0 - 1) = last1 - last0 - 1 := by go_arith
        have c5 : wr.drew.cell? ⟨B5, 0, none⟩ = _ := hv5.cell
        have c6 : wr.drew.cell? ⟨B5 + 1, 0, none⟩ = _ := hv6.cell
        have f5 : wr.drew.frozen? ⟨B5, 0, none⟩ = _ := hv5.frozen
        have h5d : Boxed wr.drew B5 23 (.slice Av X.length cv) := hv5
        have h6d : Boxed wr.drew (B5 + 1) 3 (.int .i64 last1) := hv6
        have hind : OB wr.drew w.heap.size (.slice Ay Y.length cy) Y := OB.drew hin
        have hBd := hB.drew
        have hKd := hK.trans (KeepsOthers.drew wr)
        have hHd : Held2 (B5 + 1 + 1) (B5 + 1 + 1 + 1) W wr.drew := hH
        have hwd : B5 + 1 + 1 + 1 < wr.drew.heap.size := hws
        have hmx : Try.prog.follows .mixedOrders = true := by kernel_rfl
        have hd3 : 1 ≤ (3 : Nat) := by omega
        clear hv5 hv6 hin hrow hB hK hH hws hfs hrl hcl HSn HCt hn1
        gi_wp2
        refine wpIn_region_any hmx ?_
        change wpAnyIn _ _ _ _ _ _ _ _ _ (World.drew _)
        refine wpAnyIn_round l (noDefer_spec (by kernel_rfl)) _ _ _ _ ?_
        refine wpAnyIn_take (i := 2) (v := ?_) rfl rfl (by kernel_rfl) (by kernel_rfl) (by kernel_rfl) (fun _ _ _ h => h) ⟨Or.inl ⟨by rfl, ?_⟩, fun _ => rfl⟩ ?_; rotate_left; (intro w; go_simp); (try with_reducible rfl)
        simp only [Act.put, List.getElem_toArray, List.getElem_cons_succ, List.getElem_cons_zero, List.setIfInBounds_toArray, List.set_cons_zero, List.set_cons_succ]
        refine wpAnyIn_take (i := 6) (v := ?_) rfl rfl (by kernel_rfl) (by kernel_rfl) (by kernel_rfl) (fun _ _ _ h => h) ⟨Or.inl ⟨by rfl, ?_⟩, fun _ => rfl⟩ ?_; rotate_left; (intro w; go_simp); (try with_reducible rfl)
        simp only [Act.put, List.getElem_toArray, List.getElem_cons_succ, List.getElem_cons_zero, List.setIfInBounds_toArray, List.set_cons_zero, List.set_cons_succ]
        refine wpAnyIn_ready (rs := [0, 1, 7]) (by kernel_rfl) (by simp) ?_
        refine AllReadyIn.cons rfl (fun K hK => ?_) (AllReadyIn.cons rfl (fun K hK => ?_) (AllReadyIn.cons rfl (fun K hK => ?_) AllReadyIn.nil))
        · go_simp
          refine hK _ _ ?_
          clear hK K
          refine wpAnyIn_ready (rs := [1, 7]) (by kernel_rfl) (by simp) ?_
          refine AllReadyIn.cons rfl (fun K hK => ?_) (AllReadyIn.cons rfl (fun K hK => ?_) AllReadyIn.nil)
          · go_simp
            refine hK _ _ ?_
            clear hK K
            refine wpAnyIn_take (i := 3) (v := ?_) rfl rfl (by kernel_rfl) (by kernel_rfl) (by kernel_rfl) (fun _ _ _ h => h) ⟨Or.inl ⟨by rfl, ?_⟩, fun _ => rfl⟩ ?_; rotate_left; (intro w; go_simp); (try with_reducible rfl)
            simp only [Act.put, List.getElem_toArray, List.getElem_cons_succ, List.getElem_cons_zero, List.setIfInBounds_toArray, List.set_cons_zero, List.set_cons_succ]
            refine wpAnyIn_take (i := 4) (v := ?_) rfl rfl (by kernel_rfl) (by kernel_rfl) (by kernel_rfl) (fun _ _ _ h => h) ⟨Or.inl ⟨by rfl, ?_⟩, fun _ => rfl⟩ ?_; rotate_left; (intro w; go_simp); (try with_reducible rfl)
            simp only [Act.put, List.getElem_toArray, List.getElem_cons_succ, List.getElem_cons_zero, List.setIfInBounds_toArray, List.set_cons_zero, List.set_cons_succ]
            refine wpAnyIn_ready (rs := [5, 7]) (by kernel_rfl) (by simp) ?_
            refine AllReadyIn.cons rfl (fun K hK => ?_) (AllReadyIn.cons rfl (fun K hK => ?_) AllReadyIn.nil)
            · go_simp
              refine ⟨trivial, ?_⟩
              gi_at_call 20
              refine (callsIn_wide.2 HN.out).mono ?_
              rintro e8 w8 ⟨v8, rfl, hv8, hb8⟩
              have hg8 : World.grownBy wr.drew w8 none := ⟨hb8.os, hb8.tape, hb8.output, hb8.size, fun k hk _ => hb8.block k hk⟩
              have h58 := h5d.kept hg8 (by simp)
              have h68 := h6d.kept hg8 (by simp)
              have c58 := h58.cell
              have c68 := h68.cell
              have hin8 := OB.below hind hb8
              have kc8 := RB.str (P := Try.prog) (w := w8) (src := 23) (dst := 9) Try.underlying23 Try.underlying5 Try.underlying9 (RB.of_own hin8) Y.length cy rfl
              obtain ⟨A8, c8, rfl, hc8, hn8⟩ := hv8.form
              have HTx := Lib.hid (text_any A8 c8 (X ++ Nb) (str Y) w8 (by rw [hsY]; omega) hn8 hc8 (RB.of_own hv8))
              generalize (X ++ Nb).length = m8 at HTx hv8 hc8 ⊢
              try go_simp
              refine hK _ _ ?_
              clear hK K
              refine wpAnyIn_ready (rs := [7]) (by kernel_rfl) (by simp) ?_
              refine AllReadyIn.cons rfl (fun K hK => ?_) AllReadyIn.nil
              go_simp
              refine hK _ _ ?_
              clear hK K
              refine wpAnyIn_ready (rs := [8]) (by kernel_rfl) (by simp) ?_
              refine AllReadyIn.cons rfl (fun K hK => ?_) AllReadyIn.nil
              go_simp
              refine ⟨trivial, ?_⟩
              gi_at_call 23
              refine (callsIn_wide.2 HTx.out).mono ?_
              rintro e9 w9 ⟨v9, rfl, hv9, hb9⟩
              have hg9 : World.grownBy w8 w9 none := ⟨hb9.os, hb9.tape, hb9.output, hb9.size, fun k hk _ => hb9.block k hk⟩
              have h59 := h58.kept hg9 (by simp)
              have h69 := h68.kept hg9 (by simp)
              have c59 := h59.cell
              have f59 := h59.frozen
              obtain ⟨A9, c9, rfl, hc9, hn9⟩ := hv9.form
              generalize (X ++ Nb ++ textBytes (str Y).data.toList).length = m9 at hv9 hc9 ⊢
              rw [hsT] at hv9
              try go_simp
              refine hK _ _ ?_
              clear hK K
              refine wpAnyIn_ready (rs := [9]) (by kernel_rfl) (by simp) ?_
              refine AllReadyIn.cons rfl (fun K hK => ?_) AllReadyIn.nil
              go_simp
              refine hK _ _ ?_
              clear hK K
              refine wpAnyIn_done (by kernel_rfl) ?_ _
              gi_wp2
              have hs8 := Nat.lt_of_lt_of_le hwd hb8.size
              have hs9 := Nat.lt_of_lt_of_le hs8 hb9.size
              have hBz := Nat.le_trans hBd.size hb8.size
              have hv9' := hv9.mono hBz
              have hgS := grownBy_setCell' w9 B5 (.slice A9 m9 c9)
              have hte : (23 : Nat) ≠ 5 := by decide
              have hv10 : OB (w9.setCell ⟨B5, 0, none⟩ (.slice A9 m9 c9)) w.heap.size (.slice A9 m9 c9) (X ++ Nb ++ textBytes Y) := World.ownsRow.kept hv9' hgS (.inr (h59.not_row hte hv9').symm)
              refine ⟨(((hKd.trans (below_others hb8)).trans (below_others hb9)).trans (KeepsOthers.setCell _ _ _)).from _, ((hHd.trans (held_below hb8 (by omega) hwd)).trans (held_below hb9 (by omega) hs8)).trans (held_set (by omega) hs9 (by omega) (by omega)), ⟨⟨_, h59.set _, ?_, trivial⟩, ?_⟩, ((hBd.trans (hb8.mono hBd.size)).trans (hb9.mono hBz)).setCell (p := ⟨B5, 0, none⟩) hn5 _, Nat.lt_of_lt_of_le hs9 hgS.size⟩
              · rw [HSt.out]
                rw [List.append_assoc] at hv10
                exact hv10
              · rw [HSt.out]
                exact h69.other (by omega) _
            · go_simp
              refine hK _ _ ?_
              clear hK K
              refine wpAnyIn_ready (rs := [5]) (by kernel_rfl) (by simp) ?_
              refine AllReadyIn.cons rfl (fun K hK => ?_) AllReadyIn.nil
              go_simp
              refine ⟨trivial, ?_⟩
              gi_at_call 20
              refine (callsIn_wide.2 HN.out).mono ?_
              rintro e8 w8 ⟨v8, rfl, hv8, hb8⟩
              have hg8 : World.grownBy wr.drew w8 none := ⟨hb8.os, hb8.tape, hb8.output, hb8.size, fun k hk _ => hb8.block k hk⟩
              have h58 := h5d.kept hg8 (by simp)
              have h68 := h6d.kept hg8 (by simp)
              have c58 := h58.cell
              have c68 := h68.cell
              have hin8 := OB.below hind hb8
              have kc8 := RB.str (P := Try.prog) (w := w8) (src := 23) (dst := 9) Try.underlying23 Try.underlying5 Try.underlying9 (RB.of_own hin8) Y.length cy rfl
              obtain ⟨A8, c8, rfl, hc8, hn8⟩ := hv8.form
              have HTx := Lib.hid (text_any A8 c8 (X ++ Nb) (str Y) w8 (by rw [hsY]; omega) hn8 hc8 (RB.of_own hv8))
              generalize (X ++ Nb).length = m8 at HTx hv8 hc8 ⊢
              try go_simp
              refine hK _ _ ?_
              clear hK K
              refine wpAnyIn_ready (rs := [8]) (by kernel_rfl) (by simp) ?_
              refine AllReadyIn.cons rfl (fun K hK => ?_) AllReadyIn.nil
              go_simp
              refine ⟨trivial, ?_⟩
              gi_at_call 23
              refine (callsIn_wide.2 HTx.out).mono ?_
              rintro e9 w9 ⟨v9, rfl, hv9, hb9⟩
              have hg9 : World.grownBy w8 w9 none := ⟨hb9.os, hb9.tape, hb9.output, hb9.size, fun k hk _ => hb9.block k hk⟩
              have h59 := h58.kept hg9 (by simp)
              have h69 := h68.kept hg9 (by simp)
              have c59 := h59.cell
              have f59 := h59.frozen
              obtain ⟨A9, c9, rfl, hc9, hn9⟩ := hv9.form
              generalize (X ++ Nb ++ textBytes (str Y).data.toList).length = m9 at hv9 hc9 ⊢
              rw [hsT] at hv9
              try go_simp
              refine hK _ _ ?_
              clear hK K
              refine wpAnyIn_ready (rs := [9]) (by kernel_rfl) (by simp) ?_
              refine AllReadyIn.cons rfl (fun K hK => ?_) AllReadyIn.nil
              go_simp
              refine hK _ _ ?_
              clear hK K
              refine wpAnyIn_done (by kernel_rfl) ?_ _
              gi_wp2
              have hs8 := Nat.lt_of_lt_of_le hwd hb8.size
              have hs9 := Nat.lt_of_lt_of_le hs8 hb9.size
              have hBz := Nat.le_trans hBd.size hb8.size
              have hv9' := hv9.mono hBz
              have hgS := grownBy_setCell' w9 B5 (.slice A9 m9 c9)
              have hte : (23 : Nat) ≠ 5 := by decide
              have hv10 : OB (w9.setCell ⟨B5, 0, none⟩ (.slice A9 m9 c9)) w.heap.size (.slice A9 m9 c9) (X ++ Nb ++ textBytes Y) := World.ownsRow.kept hv9' hgS (.inr (h59.not_row hte hv9').symm)
              refine ⟨(((hKd.trans (below_others hb8)).trans (below_others hb9)).trans (KeepsOthers.setCell _ _ _)).from _, ((hHd.trans (held_below hb8 (by omega) hwd)).trans (held_below hb9 (by omega) hs8)).trans (held_set (by omega) hs9 (by omega) (by omega)), ⟨⟨_, h59.set _, ?_, trivial⟩, ?_⟩, ((hBd.trans (hb8.mono hBd.size)).trans (hb9.mono hBz)).setCell (p := ⟨B5, 0, none⟩) hn5 _, Nat.lt_of_lt_of_le hs9 hgS.size⟩
              · rw [HSt.out]
                rw [List.append_assoc] at hv10
                exact hv10
              · rw [HSt.out]
                exact h69.other (by omega) _
          · go_simp
            refine hK _ _ ?_
            clear hK K
            refine wpAnyIn_ready (rs := [1]) (by kernel_rfl) (by simp) ?_
            refine AllReadyIn.cons rfl (fun K hK => ?_) AllReadyIn.nil
            go_simp
            refine hK _ _ ?_
            clear hK K
            refine wpAnyIn_take (i := 3) (v := ?_) rfl rfl (by kernel_rfl) (by kernel_rfl) (by kernel_rfl) (fun _ _ _ h => h) ⟨Or.inl ⟨by rfl, ?_⟩, fun _ => rfl⟩ ?_; rotate_left; (intro w; go_simp); (try with_reducible rfl)
            simp only [Act.put, List.getElem_toArray, List.getElem_cons_succ, List.getElem_cons_zero, List.setIfInBounds_toArray, List.set_cons_zero, List.set_cons_succ]
            refine wpAnyIn_take (i := 4) (v := ?_) rfl rfl (by kernel_rfl) (by kernel_rfl) (by kernel_rfl) (fun _ _ _ h => h) ⟨Or.inl ⟨by rfl, ?_⟩, fun _ => rfl⟩ ?_; rotate_left; (intro w; go_simp); (try with_reducible rfl)
            simp only [Act.put, List.getElem_toArray, List.getElem_cons_succ, List.getElem_cons_zero, List.setIfInBounds_toArray, List.set_cons_zero, List.set_cons_succ]
            refine wpAnyIn_ready (rs := [5]) (by kernel_rfl) (by simp) ?_
            refine AllReadyIn.cons rfl (fun K hK => ?_) AllReadyIn.nil
            go_simp
            refine ⟨trivial, ?_⟩
            gi_at_call 20
            refine (callsIn_wide.2 HN.out).mono ?_
            rintro e8 w8 ⟨v8, rfl, hv8, hb8⟩
            have hg8 : World.grownBy wr.drew w8 none := ⟨hb8.os, hb8.tape, hb8.output, hb8.size, fun k hk _ => hb8.block k hk⟩
            have h58 := h5d.kept hg8 (by simp)
            have h68 := h6d.kept hg8 (by simp)
            have c58 := h58.cell
            have c68 := h68.cell
            have hin8 := OB.below hind hb8
            have kc8 := RB.str (P := Try.prog) (w := w8) (src := 23) (dst := 9) Try.underlying23 Try.underlying5 Try.underlying9 (RB.of_own hin8) Y.length cy rfl
            obtain ⟨A8, c8, rfl, hc8, hn8⟩ := hv8.form
            have HTx := Lib.hid (text_any A8 c8 (X ++ Nb) (str Y) w8 (by rw [hsY]; omega) hn8 hc8 (RB.of_own hv8))
            generalize (X ++ Nb).length = m8 at HTx hv8 hc8 ⊢
            try go_simp
            refine hK _ _ ?_
            clear hK K
            refine wpAnyIn_ready (rs := [8]) (by kernel_rfl) (by simp) ?_
            refine AllReadyIn.cons rfl (fun K hK => ?_) AllReadyIn.nil
            go_simp
            refine ⟨trivial, ?_⟩
            gi_at_call 23
            refine (callsIn_wide.2 HTx.out).mono ?_
            rintro e9 w9 ⟨v9, rfl, hv9, hb9⟩
            have hg9 : World.grownBy w8 w9 none := ⟨hb9.os, hb9.tape, hb9.output, hb9.size, fun k hk _ => hb9.block k hk⟩
            have h59 := h58.kept hg9 (by simp)
            have h69 := h68.kept hg9 (by simp)
            have c59 := h59.cell
            have f59 := h59.frozen
            obtain ⟨A9, c9, rfl, hc9, hn9⟩ := hv9.form
            generalize (X ++ Nb ++ textBytes (str Y).data.toList).length = m9 at hv9 hc9 ⊢
            rw [hsT] at hv9
            try go_simp
            refine hK _ _ ?_
            clear hK K
            refine wpAnyIn_ready (rs := [9]) (by kernel_rfl) (by simp) ?_
            refine AllReadyIn.cons rfl (fun K hK => ?_) AllReadyIn.nil
            go_simp
            refine hK _ _ ?_
            clear hK K
            refine wpAnyIn_done (by kernel_rfl) ?_ _
            gi_wp2
            have hs8 := Nat.lt_of_lt_of_le hwd hb8.size
            have hs9 := Nat.lt_of_lt_of_le hs8 hb9.size
            have hBz := Nat.le_trans hBd.size hb8.size
            have hv9' := hv9.mono hBz
            have hgS := grownBy_setCell' w9 B5 (.slice A9 m9 c9)
            have hte : (23 : Nat) ≠ 5 := by decide
            have hv10 : OB (w9.setCell ⟨B5, 0, none⟩ (.slice A9 m9 c9)) w.heap.size (.slice A9 m9 c9) (X ++ Nb ++ textBytes Y) := World.ownsRow.kept hv9' hgS (.inr (h59.not_row hte hv9').symm)
            refine ⟨(((hKd.trans (below_others hb8)).trans (below_others hb9)).trans (KeepsOthers.setCell _ _ _)).from _, ((hHd.trans (held_below hb8 (by omega) hwd)).trans (held_below hb9 (by omega) hs8)).trans (held_set (by omega) hs9 (by omega) (by omega)), ⟨⟨_, h59.set _, ?_, trivial⟩, ?_⟩, ((hBd.trans (hb8.mono hBd.size)).trans (hb9.mono hBz)).setCell (p := ⟨B5, 0, none⟩) hn5 _, Nat.lt_of_lt_of_le hs9 hgS.size⟩
            · rw [HSt.out]
              rw [List.append_assoc] at hv10
              exact hv10
            · rw [HSt.out]
              exact h69.other (by omega) _
        · go_simp
          refine hK _ _ ?_
          clear hK K
          refine wpAnyIn_take (i := 3) (v := ?_) rfl rfl (by kernel_rfl) (by kernel_rfl) (by kernel_rfl) (fun _ _ _ h => h) ⟨Or.inl ⟨by rfl, ?_⟩, fun _ => rfl⟩ ?_; rotate_left; (intro w; go_simp); (try with_reducible rfl)
          simp only [Act.put, List.getElem_toArray, List.getElem_cons_succ, List.getElem_cons_zero, List.setIfInBounds_toArray, List.set_cons_zero, List.set_cons_succ]
          refine wpAnyIn_take (i := 4) (v := ?_) rfl rfl (by kernel_rfl) (by kernel_rfl) (by kernel_rfl) (fun _ _ _ h => h) ⟨Or.inl ⟨by rfl, ?_⟩, fun _ => rfl⟩ ?_; rotate_left; (intro w; go_simp); (try with_reducible rfl)
          simp only [Act.put, List.getElem_toArray, List.getElem_cons_succ, List.getElem_cons_zero, List.setIfInBounds_toArray, List.set_cons_zero, List.set_cons_succ]
          refine wpAnyIn_ready (rs := [0, 7]) (by kernel_rfl) (by simp) ?_
          refine AllReadyIn.cons rfl (fun K hK => ?_) (AllReadyIn.cons rfl (fun K hK => ?_) AllReadyIn.nil)
          · go_simp
            refine hK _ _ ?_
            clear hK K
            refine wpAnyIn_ready (rs := [5, 7]) (by kernel_rfl) (by simp) ?_
            refine AllReadyIn.cons rfl (fun K hK => ?_) (AllReadyIn.cons rfl (fun K hK => ?_) AllReadyIn.nil)
            · go_simp
              refine ⟨trivial, ?_⟩
              gi_at_call 20
              refine (callsIn_wide.2 HN.out).mono ?_
              rintro e8 w8 ⟨v8, rfl, hv8, hb8⟩
              have hg8 : World.grownBy wr.drew w8 none := ⟨hb8.os, hb8.tape, hb8.output, hb8.size, fun k hk _ => hb8.block k hk⟩
              have h58 := h5d.kept hg8 (by simp)
              have h68 := h6d.kept hg8 (by simp)
              have c58 := h58.cell
              have c68 := h68.cell
              have hin8 := OB.below hind hb8
              have kc8 := RB.str (P := Try.prog) (w := w8) (src := 23) (dst := 9) Try.underlying23 Try.underlying5 Try.underlying9 (RB.of_own hin8) Y.length cy rfl
              obtain ⟨A8, c8, rfl, hc8, hn8⟩ := hv8.form
              have HTx := Lib.hid (text_any A8 c8 (X ++ Nb) (str Y) w8 (by rw [hsY]; omega) hn8 hc8 (RB.of_own hv8))
              generalize (X ++ Nb).length = m8 at HTx hv8 hc8 ⊢
              try go_simp
              refine hK _ _ ?_
              clear hK K
              refine wpAnyIn_ready (rs := [7]) (by kernel_rfl) (by simp) ?_
              refine AllReadyIn.cons rfl (fun K hK => ?_) AllReadyIn.nil
              go_simp
              refine hK _ _ ?_
              clear hK K
              refine wpAnyIn_ready (rs := [8]) (by kernel_rfl) (by simp) ?_
              refine AllReadyIn.cons rfl (fun K hK => ?_) AllReadyIn.nil
              go_simp
              refine ⟨trivial, ?_⟩
              gi_at_call 23
              refine (callsIn_wide.2 HTx.out).mono ?_
              rintro e9 w9 ⟨v9, rfl, hv9, hb9⟩
              have hg9 : World.grownBy w8 w9 none := ⟨hb9.os, hb9.tape, hb9.output, hb9.size, fun k hk _ => hb9.block k hk⟩
              have h59 := h58.kept hg9 (by simp)
              have h69 := h68.kept hg9 (by simp)
              have c59 := h59.cell
              have f59 := h59.frozen
              obtain ⟨A9, c9, rfl, hc9, hn9⟩ := hv9.form
              generalize (X ++ Nb ++ textBytes (str Y).data.toList).length = m9 at hv9 hc9 ⊢
              rw [hsT] at hv9
              try go_simp
              refine hK _ _ ?_
              clear hK K
              refine wpAnyIn_ready (rs := [9]) (by kernel_rfl) (by simp) ?_
              refine AllReadyIn.cons rfl (fun K hK => ?_) AllReadyIn.nil
              go_simp
              refine hK _ _ ?_
              clear hK K
              refine wpAnyIn_done (by kernel_rfl) ?_ _
              gi_wp2
              have hs8 := Nat.lt_of_lt_of_le hwd hb8.size
              have hs9 := Nat.lt_of_lt_of_le hs8 hb9.size
              have hBz := Nat.le_trans hBd.size hb8.size
              have hv9' := hv9.mono hBz
              have hgS := grownBy_setCell' w9 B5 (.slice A9 m9 c9)
              have hte : (23 : Nat) ≠ 5 := by decide
              have hv10 : OB (w9.setCell ⟨B5, 0, none⟩ (.slice A9 m9 c9)) w.heap.size (.slice A9 m9 c9) (X ++ Nb ++ textBytes Y) := World.ownsRow.kept hv9' hgS (.inr (h59.not_row hte hv9').symm)
              refine ⟨(((hKd.trans (below_others hb8)).trans (below_others hb9)).trans (KeepsOthers.setCell _ _ _)).from _, ((hHd.trans (held_below hb8 (by omega) hwd)).trans (held_below hb9 (by omega) hs8)).trans (held_set (by omega) hs9 (by omega) (by omega)), ⟨⟨_, h59.set _, ?_, trivial⟩, ?_⟩, ((hBd.trans (hb8.mono hBd.size)).trans (hb9.mono hBz)).setCell (p := ⟨B5, 0, none⟩) hn5 _, Nat.lt_of_lt_of_le hs9 hgS.size⟩
              · rw [HSt.out]
                rw [List.append_assoc] at hv10
                exact hv10
              · rw [HSt.out]
                exact h69.other (by omega) _
            · go_simp
              refine hK _ _ ?_
              clear hK K
              refine wpAnyIn_ready (rs := [5]) (by kernel_rfl) (by simp) ?_
              refine AllReadyIn.cons rfl (fun K hK => ?_) AllReadyIn.nil
              go_simp
              refine ⟨trivial, ?_⟩
              gi_at_call 20
              refine (callsIn_wide.2 HN.out).mono ?_
              rintro e8 w8 ⟨v8, rfl, hv8, hb8⟩
              have hg8 : World.grownBy wr.drew w8 none := ⟨hb8.os, hb8.tape, hb8.output, hb8.size, fun k hk _ => hb8.block k hk⟩
              have h58 := h5d.kept hg8 (by simp)
              have h68 := h6d.kept hg8 (by simp)
              have c58 := h58.cell
              have c68 := h68.cell
              have hin8 := OB.below hind hb8
              have kc8 := RB.str (P := Try.prog) (w := w8) (src := 23) (dst := 9) Try.underlying23 Try.underlying5 Try.underlying9 (RB.of_own hin8) Y.length cy rfl
              obtain ⟨A8, c8, rfl, hc8, hn8⟩ := hv8.form
              have HTx := Lib.hid (text_any A8 c8 (X ++ Nb) (str Y) w8 (by rw [hsY]; omega) hn8 hc8 (RB.of_own hv8))
              generalize (X ++ Nb).length = m8 at HTx hv8 hc8 ⊢
              try go_simp
              refine hK _ _ ?_
              clear hK K
              refine wpAnyIn_ready (rs := [8]) (by kernel_rfl) (by simp) ?_
              refine AllReadyIn.cons rfl (fun K hK => ?_) AllReadyIn.nil
              go_simp
              refine ⟨trivial, ?_⟩
              gi_at_call 23
              refine (callsIn_wide.2 HTx.out).mono ?_
              rintro e9 w9 ⟨v9, rfl, hv9, hb9⟩
              have hg9 : World.grownBy w8 w9 none := ⟨hb9.os, hb9.tape, hb9.output, hb9.size, fun k hk _ => hb9.block k hk⟩
              have h59 := h58.kept hg9 (by simp)
              have h69 := h68.kept hg9 (by simp)
              have c59 := h59.cell
              have f59 := h59.frozen
              obtain ⟨A9, c9, rfl, hc9, hn9⟩ := hv9.form
              generalize (X ++ Nb ++ textBytes (str Y).data.toList).length = m9 at hv9 hc9 ⊢
              rw [hsT] at hv9
              try go_simp
              refine hK _ _ ?_
              clear hK K
              refine wpAnyIn_ready (rs := [9]) (by kernel_rfl) (by simp) ?_
              refine AllReadyIn.cons rfl (fun K hK => ?_) AllReadyIn.nil
              go_simp
              refine hK _ _ ?_
              clear hK K
              refine wpAnyIn_done (by kernel_rfl) ?_ _
              gi_wp2
              have hs8 := Nat.lt_of_lt_of_le hwd hb8.size
              have hs9 := Nat.lt_of_lt_of_le hs8 hb9.size
              have hBz := Nat.le_trans hBd.size hb8.size
              have hv9' := hv9.mono hBz
              have hgS := grownBy_setCell' w9 B5 (.slice A9 m9 c9)
              have hte : (23 : Nat) ≠ 5 := by decide
              have hv10 : OB (w9.setCell ⟨B5, 0, none⟩ (.slice A9 m9 c9)) w.heap.size (.slice A9 m9 c9) (X ++ Nb ++ textBytes Y) := World.ownsRow.kept hv9' hgS (.inr (h59.not_row hte hv9').symm)
              refine ⟨(((hKd.trans (below_others hb8)).trans (below_others hb9)).trans (KeepsOthers.setCell _ _ _)).from _, ((hHd.trans (held_below hb8 (by omega) hwd)).trans (held_below hb9 (by omega) hs8)).trans (held_set (by omega) hs9 (by omega) (by omega)), ⟨⟨_, h59.set _, ?_, trivial⟩, ?_⟩, ((hBd.trans (hb8.mono hBd.size)).trans (hb9.mono hBz)).setCell (p := ⟨B5, 0, none⟩) hn5 _, Nat.lt_of_lt_of_le hs9 hgS.size⟩
              · rw [HSt.out]
                rw [List.append_assoc] at hv10
                exact hv10
              · rw [HSt.out]
                exact h69.other (by omega) _
          · go_simp
            refine hK _ _ ?_
            clear hK K
            refine wpAnyIn_ready (rs := [0]) (by kernel_rfl) (by simp) ?_
            refine AllReadyIn.cons rfl (fun K hK => ?_) AllReadyIn.nil
            go_simp
            refine hK _ _ ?_
            clear hK K
            refine wpAnyIn_ready (rs := [5]) (by kernel_rfl) (by simp) ?_
            refine AllReadyIn.cons rfl (fun K hK => ?_) AllReadyIn.nil
            go_simp
            refine ⟨trivial, ?_⟩
            gi_at_call 20
            refine (callsIn_wide.2 HN.out).mono ?_
            rintro e8 w8 ⟨v8, rfl, hv8, hb8⟩
            have hg8 : World.grownBy wr.drew w8 none := ⟨hb8.os, hb8.tape, hb8.output, hb8.size, fun k hk _ => hb8.block k hk⟩
            have h58 := h5d.kept hg8 (by simp)
            have h68 := h6d.kept hg8 (by simp)
            have c58 := h58.cell
            have c68 := h68.cell
            have hin8 := OB.below hind hb8
            have kc8 := RB.str (P := Try.prog) (w := w8) (src := 23) (dst := 9) Try.underlying23 Try.underlying5 Try.underlying9 (RB.of_own hin8) Y.length cy rfl
            obtain ⟨A8, c8, rfl, hc8, hn8⟩ := hv8.form
            have HTx := Lib.hid (text_any A8 c8 (X ++ Nb) (str Y) w8 (by rw [hsY]; omega) hn8 hc8 (RB.of_own hv8))
            generalize (X ++ Nb).length = m8 at HTx hv8 hc8 ⊢
            try go_simp
            refine hK _ _ ?_
            clear hK K
            refine wpAnyIn_ready (rs := [8]) (by kernel_rfl) (by simp) ?_
            refine AllReadyIn.cons rfl (fun K hK => ?_) AllReadyIn.nil
            go_simp
            refine ⟨trivial, ?_⟩
            gi_at_call 23
            refine (callsIn_wide.2 HTx.out).mono ?_
            rintro e9 w9 ⟨v9, rfl, hv9, hb9⟩
            have hg9 : World.grownBy w8 w9 none := ⟨hb9.os, hb9.tape, hb9.output, hb9.size, fun k hk _ => hb9.block k hk⟩
            have h59 := h58.kept hg9 (by simp)
            have h69 := h68.kept hg9 (by simp)
            have c59 := h59.cell
            have f59 := h59.frozen
            obtain ⟨A9, c9, rfl, hc9, hn9⟩ := hv9.form
            generalize (X ++ Nb ++ textBytes (str Y).data.toList).length = m9 at hv9 hc9 ⊢
            rw [hsT] at hv9
            try go_simp
            refine hK _ _ ?_
            clear hK K
            refine wpAnyIn_ready (rs := [9]) (by kernel_rfl) (by simp) ?_
            refine AllReadyIn.cons rfl (fun K hK => ?_) AllReadyIn.nil
            go_simp
            refine hK _ _ ?_
            clear hK K
            refine wpAnyIn_done (by kernel_rfl) ?_ _
            gi_wp2
            have hs8 := Nat.lt_of_lt_of_le hwd hb8.size
            have hs9 := Nat.lt_of_lt_of_le hs8 hb9.size
            have hBz := Nat.le_trans hBd.size hb8.size
            have hv9' := hv9.mono hBz
            have hgS := grownBy_setCell' w9 B5 (.slice A9 m9 c9)
            have hte : (23 : Nat) ≠ 5 := by decide
            have hv10 : OB (w9.setCell ⟨B5, 0, none⟩ (.slice A9 m9 c9)) w.heap.size (.slice A9 m9 c9) (X ++ Nb ++ textBytes Y) := World.ownsRow.kept hv9' hgS (.inr (h59.not_row hte hv9').symm)
            refine ⟨(((hKd.trans (below_others hb8)).trans (below_others hb9)).trans (KeepsOthers.setCell _ _ _)).from _, ((hHd.trans (held_below hb8 (by omega) hwd)).trans (held_below hb9 (by omega) hs8)).trans (held_set (by omega) hs9 (by omega) (by omega)), ⟨⟨_, h59.set _, ?_, trivial⟩, ?_⟩, ((hBd.trans (hb8.mono hBd.size)).trans (hb9.mono hBz)).setCell (p := ⟨B5, 0, none⟩) hn5 _, Nat.lt_of_lt_of_le hs9 hgS.size⟩
            · rw [HSt.out]
              rw [List.append_assoc] at hv10
              exact hv10
            · rw [HSt.out]
              exact h69.other (by omega) _
        · go_simp
          refine hK _ _ ?_
          clear hK K
          refine wpAnyIn_ready (rs := [0, 1]) (by kernel_rfl) (by simp) ?_
          refine AllReadyIn.cons rfl (fun K hK => ?_) (AllReadyIn.cons rfl (fun K hK => ?_) AllReadyIn.nil)
          · go_simp
            refine hK _ _ ?_
            clear hK K
            refine wpAnyIn_ready (rs := [1]) (by kernel_rfl) (by simp) ?_
            refine AllReadyIn.cons rfl (fun K hK => ?_) AllReadyIn.nil
            go_simp
            refine hK _ _ ?_
            clear hK K
            refine wpAnyIn_take (i := 3) (v := ?_) rfl rfl (by kernel_rfl) (by kernel_rfl) (by kernel_rfl) (fun _ _ _ h => h) ⟨Or.inl ⟨by rfl, ?_⟩, fun _ => rfl⟩ ?_; rotate_left; (intro w; go_simp); (try with_reducible rfl)
            simp only [Act.put, List.getElem_toArray, List.getElem_cons_succ, List.getElem_cons_zero, List.setIfInBounds_toArray, List.set_cons_zero, List.set_cons_succ]
            refine wpAnyIn_take (i := 4) (v := ?_) rfl rfl (by kernel_rfl) (by kernel_rfl) (by kernel_rfl) (fun _ _ _ h => h) ⟨Or.inl ⟨by rfl, ?_⟩, fun _ => rfl⟩ ?_; rotate_left; (intro w; go_simp); (try with_reducible rfl)
            simp only [Act.put, List.getElem_toArray, List.getElem_cons_succ, List.getElem_cons_zero, List.setIfInBounds_toArray, List.set_cons_zero, List.set_cons_succ]
            refine wpAnyIn_ready (rs := [5]) (by kernel_rfl) (by simp) ?_
            refine AllReadyIn.cons rfl (fun K hK => ?_) AllReadyIn.nil
            go_simp
            refine ⟨trivial, ?_⟩
            gi_at_call 20
            refine (callsIn_wide.2 HN.out).mono ?_
            rintro e8 w8 ⟨v8, rfl, hv8, hb8⟩
            have hg8 : World.grownBy wr.drew w8 none := ⟨hb8.os, hb8.tape, hb8.output, hb8.size, fun k hk _ => hb8.block k hk⟩
            have h58 := h5d.kept hg8 (by simp)
            have h68 := h6d.kept hg8 (by simp)
            have c58 := h58.cell
            have c68 := h68.cell
            have hin8 := OB.below hind hb8
            have kc8 := RB.str (P := Try.prog) (w := w8) (src := 23) (dst := 9) Try.underlying23 Try.underlying5 Try.underlying9 (RB.of_own hin8) Y.length cy rfl
            obtain ⟨A8, c8, rfl, hc8, hn8⟩ := hv8.form
            have HTx := Lib.hid (text_any A8 c8 (X ++ Nb) (str Y) w8 (by rw [hsY]; omega) hn8 hc8 (RB.of_own hv8))
            generalize (X ++ Nb).length = m8 at HTx hv8 hc8 ⊢
            try go_simp
            refine hK _ _ ?_
            clear hK K
            refine wpAnyIn_ready (rs := [8]) (by kernel_rfl) (by simp) ?_
            refine AllReadyIn.cons rfl (fun K hK => ?_) AllReadyIn.nil
            go_simp
            refine ⟨trivial, ?_⟩
            gi_at_call 23
            refine (callsIn_wide.2 HTx.out).mono ?_
            rintro e9 w9 ⟨v9, rfl, hv9, hb9⟩
            have hg9 : World.grownBy w8 w9 none := ⟨hb9.os, hb9.tape, hb9.output, hb9.size, fun k hk _ => hb9.block k hk⟩
            have h59 := h58.kept hg9 (by simp)
            have h69 := h68.kept hg9 (by simp)
            have c59 := h59.cell
            have f59 := h59.frozen
            obtain ⟨A9, c9, rfl, hc9, hn9⟩ := hv9.form
            generalize (X ++ Nb ++ textBytes (str Y).data.toList).length = m9 at hv9 hc9 ⊢
            rw [hsT] at hv9
            try go_simp
            refine hK _ _ ?_
            clear hK K
            refine wpAnyIn_ready (rs := [9]) (by kernel_rfl) (by simp) ?_
            refine AllReadyIn.cons rfl (fun K hK => ?_) AllReadyIn.nil
            go_simp
            refine hK _ _ ?_
            clear hK K
            refine wpAnyIn_done (by kernel_rfl) ?_ _
            gi_wp2
            have hs8 := Nat.lt_of_lt_of_le hwd hb8.size
            have hs9 := Nat.lt_of_lt_of_le hs8 hb9.size
            have hBz := Nat.le_trans hBd.size hb8.size
            have hv9' := hv9.mono hBz
            have hgS := grownBy_setCell' w9 B5 (.slice A9 m9 c9)
            have hte : (23 : Nat) ≠ 5 := by decide
            have hv10 : OB (w9.setCell ⟨B5, 0, none⟩ (.slice A9 m9 c9)) w.heap.size (.slice A9 m9 c9) (X ++ Nb ++ textBytes Y) := World.ownsRow.kept hv9' hgS (.inr (h59.not_row hte hv9').symm)
            refine ⟨(((hKd.trans (below_others hb8)).trans (below_others hb9)).trans (KeepsOthers.setCell _ _ _)).from _, ((hHd.trans (held_below hb8 (by omega) hwd)).trans (held_below hb9 (by omega) hs8)).trans (held_set (by omega) hs9 (by omega) (by omega)), ⟨⟨_, h59.set _, ?_, trivial⟩, ?_⟩, ((hBd.trans (hb8.mono hBd.size)).trans (hb9.mono hBz)).setCell (p := ⟨B5, 0, none⟩) hn5 _, Nat.lt_of_lt_of_le hs9 hgS.size⟩
            · rw [HSt.out]
              rw [List.append_assoc] at hv10
              exact hv10
            · rw [HSt.out]
              exact h69.other (by omega) _
          · go_simp
            refine hK _ _ ?_
            clear hK K
            refine wpAnyIn_take (i := 3) (v := ?_) rfl rfl (by kernel_rfl) (by kernel_rfl) (by kernel_rfl) (fun _ _ _ h => h) ⟨Or.inl ⟨by rfl, ?_⟩, fun _ => rfl⟩ ?_; rotate_left; (intro w; go_simp); (try with_reducible rfl)
            simp only [Act.put, List.getElem_toArray, List.getElem_cons_succ, List.getElem_cons_zero, List.setIfInBounds_toArray, List.set_cons_zero, List.set_cons_succ]
            refine wpAnyIn_take (i := 4) (v := ?_) rfl rfl (by kernel_rfl) (by kernel_rfl) (by kernel_rfl) (fun _ _ _ h => h) ⟨Or.inl ⟨by rfl, ?_⟩, fun _ => rfl⟩ ?_; rotate_left; (intro w; go_simp); (try with_reducible rfl)
            simp only [Act.put, List.getElem_toArray, List.getElem_cons_succ, List.getElem_cons_zero, List.setIfInBounds_toArray, List.set_cons_zero, List.set_cons_succ]
            refine wpAnyIn_ready (rs := [0]) (by kernel_rfl) (by simp) ?_
            refine AllReadyIn.cons rfl (fun K hK => ?_) AllReadyIn.nil
            go_simp
            refine hK _ _ ?_
            clear hK K
            refine wpAnyIn_ready (rs := [5]) (by kernel_rfl) (by simp) ?_
            refine AllReadyIn.cons rfl (fun K hK => ?_) AllReadyIn.nil
            go_simp
            refine ⟨trivial, ?_⟩
            gi_at_call 20
            refine (callsIn_wide.2 HN.out).mono ?_
            rintro e8 w8 ⟨v8, rfl, hv8, hb8⟩
            have hg8 : World.grownBy wr.drew w8 none := ⟨hb8.os, hb8.tape, hb8.output, hb8.size, fun k hk _ => hb8.block k hk⟩
            have h58 := h5d.kept hg8 (by simp)
            have h68 := h6d.kept hg8 (by simp)
            have c58 := h58.cell
            have c68 := h68.cell
            have hin8 := OB.below hind hb8
            have kc8 := RB.str (P := Try.prog) (w := w8) (src := 23) (dst := 9) Try.underlying23 Try.underlying5 Try.underlying9 (RB.of_own hin8) Y.length cy rfl
            obtain ⟨A8, c8, rfl, hc8, hn8⟩ := hv8.form
            have HTx := Lib.hid (text_any A8 c8 (X ++ Nb) (str Y) w8 (by rw [hsY]; omega) hn8 hc8 (RB.of_own hv8))
            generalize (X ++ Nb).length = m8 at HTx hv8 hc8 ⊢
            try go_simp
            refine hK _ _ ?_
            clear hK K
            refine wpAnyIn_ready (rs := [8]) (by kernel_rfl) (by simp) ?_
            refine AllReadyIn.cons rfl (fun K hK => ?_) AllReadyIn.nil
            go_simp
            refine ⟨trivial, ?_⟩
            gi_at_call 23
            refine (callsIn_wide.2 HTx.out).mono ?_
            rintro e9 w9 ⟨v9, rfl, hv9, hb9⟩
            have hg9 : World.grownBy w8 w9 none := ⟨hb9.os, hb9.tape, hb9.output, hb9.size, fun k hk _ => hb9.block k hk⟩
            have h59 := h58.kept hg9 (by simp)
            have h69 := h68.kept hg9 (by simp)
            have c59 := h59.cell
            have f59 := h59.frozen
            obtain ⟨A9, c9, rfl, hc9, hn9⟩ := hv9.form
            generalize (X ++ Nb ++ textBytes (str Y).data.toList).length = m9 at hv9 hc9 ⊢
            rw [hsT] at hv9
            try go_simp
            refine hK _ _ ?_
            clear hK K
            refine wpAnyIn_ready (rs := [9]) (by kernel_rfl) (by simp) ?_
            refine AllReadyIn.cons rfl (fun K hK => ?_) AllReadyIn.nil
            go_simp
            refine hK _ _ ?_
            clear hK K
            refine wpAnyIn_done (by kernel_rfl) ?_ _
            gi_wp2
            have hs8 := Nat.lt_of_lt_of_le hwd hb8.size
            have hs9 := Nat.lt_of_lt_of_le hs8 hb9.size
            have hBz := Nat.le_trans hBd.size hb8.size
            have hv9' := hv9.mono hBz
            have hgS := grownBy_setCell' w9 B5 (.slice A9 m9 c9)
            have hte : (23 : Nat) ≠ 5 := by decide
            have hv10 : OB (w9.setCell ⟨B5, 0, none⟩ (.slice A9 m9 c9)) w.heap.size (.slice A9 m9 c9) (X ++ Nb ++ textBytes Y) := World.ownsRow.kept hv9' hgS (.inr (h59.not_row hte hv9').symm)
            refine ⟨(((hKd.trans (below_others hb8)).trans (below_others hb9)).trans (KeepsOthers.setCell _ _ _)).from _, ((hHd.trans (held_below hb8 (by omega) hwd)).trans (held_below hb9 (by omega) hs8)).trans (held_set (by omega) hs9 (by omega) (by omega)), ⟨⟨_, h59.set _, ?_, trivial⟩, ?_⟩, ((hBd.trans (hb8.mono hBd.size)).trans (hb9.mono hBz)).setCell (p := ⟨B5, 0, none⟩) hn5 _, Nat.lt_of_lt_of_le hs9 hgS.size⟩
            · rw [HSt.out]
              rw [List.append_assoc] at hv10
              exact hv10
            · rw [HSt.out]
              exact h69.other (by omega) _
  case done =>
    rintro D ys W hD ⟨k, hk, hk2, rfl⟩ ⟨⟨⟨v, hv5, hrow, _⟩, hv6⟩, hB, hWs⟩ hK
    have hc5 := hv5.cell
    gi_wp2
    refine ⟨by simp, .inl ⟨_, _, rfl, run_takeDeferred hK, ?_⟩⟩
    have hF2 : (foldB (ls.map LPost.p) ((firstChunks ls.length k hk).map (·.1))).2 = encB (ls.map LPost.p) := by
      rw [firstChunks_starts]
      exact encB_of (by rw [List.length_map]; omega) (by rw [List.length_map]; omega)
    rw [hF2] at hrow
    refine ⟨.tuple #[v, .int .i64 0], ?_, v, rfl, ownsRow_putObj hrow _ hK rfl, hB.trans (belowK_b (w := w) (Nat.le_refl _) W D _ _ (by omega) hK rfl rfl)⟩
    simp [results, Try.f8, go_sem]
  case stop =>
    rintro D c pre W _ _ h _
    exact h.elim
end Go.Proofs.Ytbeejmedekgjjaa
