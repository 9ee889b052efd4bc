/- The walk of add where a block goes on. -/
import Derived.Test.YtjmojfhkajknlaaDiC
import Derived.BigRegion
namespace Go.Proofs.Ytjmojfhkajknlaa
open Go.RowKit
set_option linter.unusedVariables false
set_option linter.unusedSimpArgs false
theorem numNat_nat (k : Nat) : numNat (k : Int) = k := by unfold numNat; omega
/-- A number's bytes on nothing. -/
theorem num_nil (k : Nat) (hk : k < 9223372036854775808) (w : World) :
    Calls Try.prog 27 #[.slice none 0 0, .int .i64 k] w fun e w' => ∃ v, e = .returned v ∧ OB w' w.heap.size v (numBytes k) ∧ Below w.heap.size w w' := by
  have := num_any none 0 [] (k : Int) w (by simp) (by omega) (fun _ => rfl) (by simp) (Lies.nil _ _)
  rw [numNat_nat] at this
  exact this
theorem OS.below {w w' : World} {base : Nat} {v : Value} {l : List (List UInt8)} (h : OS w base v l) (hb : Below w.heap.size w w') : OS w' base v l := OS_below h hb
theorem below_drewN {B : Nat} {a w : World} (h : Below B a w) (n : Nat) : Below B a (w.drewN n) := h.trans ⟨rfl, rfl, rfl, Nat.le_refl _, fun _ _ => rfl⟩
theorem vs_append (a b : List UInt8) : vs (a ++ b) = .string (str a ++ str b) := by
  unfold vs
  rw [show str (a ++ b) = str a ++ str b from by8_inj (by rw [by8_append, by8_str, by8_str, by8_str])]
theorem dat_old {w w3 : World} {g gB b cB n : Nat} {vH : Value} {l l' : List (List UInt8)} {bx cw : List UInt8} (hn : n = b + 1)
    (blk : w3.heap[g]? = some (.cells #[.int .i64 ((l.length : Int) + 1), vH, .slice (some ⟨gB, 0, none⟩) (b + 1) cB] 51 (0, 0))) (hl' : l'.length = l.length + 1)
    (oH : OS w3 (g + 1) vH (headsL l)) (oB : w3.ownsRow (g + 1) 9 1 (.slice (some ⟨gB, 0, none⟩) (b + 1) cB) (b + 1) ((blocksL l).map vs))
    (hH : headsL l' = headsL l) (hB : blocksL l' = (blocksL l).set b (bx ++ cw)) (hbl : (blocksL l).length = b + 1)
    (hap : ∀ k, vH.ownBlock = some k → (Value.slice (some ⟨gB, 0, none⟩) n cB).ownBlock = some k → False) (hb : Below g w w3) :
    DAt (w3.setCell ⟨gB, b, none⟩ (.string (str bx ++ str cw))) g vH (.slice (some ⟨gB, 0, none⟩) (b + 1) cB) l' ∧ Below g w (w3.setCell ⟨gB, b, none⟩ (.string (str bx ++ str cw))) := by
  have hgB := (World.ownsRow.lt oB gB rfl).1
  have hgg := Lib.grownBy_setCell w3 gB b (.string (str bx ++ str cw))
  refine ⟨⟨?_, ?_, ?_, fun k e1 e2 => hap k e1 e2⟩, hb.setCell (p := ⟨gB, b, none⟩) (by show g ≤ gB; omega) _⟩
  · rw [hgg.block g (blk_lt blk) (fun e => by injection e with e; omega), blk, hl']
    simp
  · unfold OS
    rw [hH]
    exact World.ownsRow.kept oH hgg (by
      cases hv : vH.ownBlock with
      | none => exact .inl rfl
      | some k => exact .inr (fun e => hap k hv (by show some gB = some k; exact e.symm)))
  · unfold OS
    rw [hB, List.length_set, hbl, List.map_set, vs_append]
    exact (World.ownsRow.stored oB b _).1
set_option maxHeartbeats 3200000 in
theorem add_old (g : Nat) (vH vB : Value) (l : List (List UInt8)) (s last : ByteArray) (w : World) (h : DAt w g vH vB l) (hl : l.length % 4 ≠ 0) (hm : l.length < 16384) (hs : s.size ≤ 64) (hx : ∀ x ∈ l, x.length ≤ 64) (hla : by8 last = lastW [] l) :
    Calls Try.prog 25 #[.pointer (some ⟨g, 0, none⟩), .string s, .string last, .int .i64 l.length] w fun e w' => e = .returned (.tuple #[]) ∧ ∃ vH' vB', DAt w' g vH' vB' (l ++ [by8 s]) ∧ Below g w w' := by
  obtain ⟨hb, hH, hB, hap⟩ := h
  have hlast : last.size ≤ 64 := by
    rw [← by8_size, hla]
    unfold lastW
    cases e : l.getLast? with
    | none => simp
    | some x => exact hx x (List.mem_of_getLast? e)
  have k0 : w.cell? ⟨g, 0, none⟩ = some (.int .i64 l.length) := blk_cell hb
  have f0 : w.frozen? ⟨g, 0, none⟩ = false := blk_free hb
  have hwr : IntKind.i64.wrap ((l.length : Int) + 1) = (l.length : Int) + 1 := by rw [IntKind.wrap_i64]; omega
  have hq : (((l.length : Int) % 4) == 0) = false := by rw [beq_eq_false_iff_ne]; omega
  have hk1 := (likeL_le (by8 s) (by8 last)).1
  rw [by8_size] at hk1
  have hnb : nblk l.length - 1 < (blocksL l).length := by rw [blocksL_length]; unfold nblk; omega
  have HBl : Hid ((blocksL l).length = nblk l.length - 1 + 1) := by show _ = _; have : 1 ≤ nblk l.length := (by unfold nblk; omega); rw [blocksL_length]; omega
  have HbO := Lib.hid (blocks_old l (by8 s) hl)
  have HhO := Lib.hid (heads_old l (by8 s) hl)
  have hlen : ((blocksL l)[nblk l.length - 1]).length ≤ 400 := by
    rw [blocksL_at]
    have hg := grp_length l (nblk l.length - 1)
    have hgx : ∀ x ∈ grp l (nblk l.length - 1), x.length ≤ 64 := fun x h => hx x (List.mem_of_mem_drop (List.mem_of_mem_take h))
    generalize grp l (nblk l.length - 1) = gr at hg hgx
    cases gr with
    | nil => simp [encTail]
    | cons y ys =>
      have := encGo_le (d := y) (fun x h => hgx x (List.mem_cons_of_mem _ h))
      rw [List.length_cons] at hg
      rw [encTail]; omega
  have hap := Lib.hid hap
  have hcw : Hid (codeW (lastW [] l) (by8 s) = numBytes (likeL (by8 s) (by8 last)) ++ textBytes ((by8 s).drop (likeL (by8 s) (by8 last)))) := by show _ = _; rw [← hla]; rfl
  clear hx
  have HLk : Hid (∀ w, Calls Try.prog 28 #[.string s, .string last] w fun e w' => e = .returned (.int .i64 (likeL (by8 s) (by8 last))) ∧ ∃ q, w' = w.drewN q) := fun w => like_any s last w (by omega) (by omega)
  generalize likeL (by8 s) (by8 last) = k at hk1 hcw HLk
  have HN := Lib.hid (num_nil k (by omega))
  obtain ⟨b, bx, hnb, HBl, HbO, HbX, hlen, hb16⟩ : ∃ (b : Nat) (bx : List UInt8), b < (blocksL l).length ∧ Hid ((blocksL l).length = b + 1) ∧ Hid (blocksL (l ++ [by8 s]) = (blocksL l).set b (bx ++ codeW (lastW [] l) (by8 s))) ∧ Hid ((blocksL l)[b]? = some bx) ∧ bx.length ≤ 400 ∧ b < 16384 :=
    ⟨_, _, hnb, HBl, HbO, List.getElem?_eq_getElem hnb, hlen, by unfold nblk; omega⟩
  have k1 : (k : Int) ≤ (s.size : Int) := by omega
  go_enter Try.func25, Try.ntmps25
  go_wp2_with fail
  have blk : (w.setCell ⟨g, 0, none⟩ (.int .i64 ((l.length : Int) + 1))).heap[g]? = some (.cells #[.int .i64 ((l.length : Int) + 1), vH, vB] 51 (0, 0)) := by
    rw [heap_setCell_same w g 0 _ _ _ hb]; rfl
  have hg0 := Lib.grownBy_setCell w g 0 (.int .i64 ((l.length : Int) + 1))
  have oH : OS (w.setCell ⟨g, 0, none⟩ (.int .i64 ((l.length : Int) + 1))) (g + 1) vH (headsL l) := World.ownsRow.kept hH hg0 (by
    cases hv : vH.ownBlock with
    | none => exact .inl rfl
    | some k => exact .inr (fun e => by have := (World.ownsRow.lt hH k hv).1; injection e; omega))
  have oB : OS (w.setCell ⟨g, 0, none⟩ (.int .i64 ((l.length : Int) + 1))) (g + 1) vB (blocksL l) := World.ownsRow.kept hB hg0 (by
    cases hv : vB.ownBlock with
    | none => exact .inl rfl
    | some k => exact .inr (fun e => by have := (World.ownsRow.lt hB k hv).1; injection e; omega))
  have bel : Below g w (w.setCell ⟨g, 0, none⟩ (.int .i64 ((l.length : Int) + 1))) := (Below.refl _ _).setCell (p := ⟨g, 0, none⟩) (Nat.le_refl _) _
  clear hb hH hB hg0 k0 f0
  generalize w.setCell ⟨g, 0, none⟩ (.int .i64 ((l.length : Int) + 1)) = W at blk oH oB bel ⊢
  refine (HLk.out W).mono ?_
  rintro e w1 ⟨rfl, q, rfl⟩
  go_wp2_with fail
  have blk : (W.drewN q).heap[g]? = _ := blk
  have oH : OS (W.drewN q) (g + 1) vH (headsL l) := oH
  have oB : OS (W.drewN q) (g + 1) vB (blocksL l) := oB
  have bel : Below g w (W.drewN q) := below_drewN bel q
  generalize W.drewN q = W at blk oH oB bel ⊢
  go_region_law (first
    | (go_simp; go_at_call 27; refine (HN.out _).mono ?_; rintro e w2 ⟨v2, rfl, ho2, hb2⟩; obtain ⟨A2, c2, rfl, hl2, hA2⟩ := ho2.form; have hn9 : (numBytes k).length ≤ 9 := (by rw [numBytes_length]; have := need_le k; omega))
    | (go_simp; go_at_call 29; refine (text_any A2 c2 (numBytes k) (s.extract k s.size) w2 (by rw [ByteArray.size_extract]; omega) hA2 hl2 (RB.of_own ho2)).mono ?_; rintro e w3 ⟨v3, rfl, ho3, hb3⟩))
  have hbT := hb2.trans (hb3.mono hb2.size)
  have blk3 := (hbT.block g (blk_lt blk)).trans blk
  have oH3 := OS.below (w := W.drew) oH hbT
  have oB3 := OS.below (w := W.drew) oB hbT
  have bel3 := bel.drew.trans (hbT.mono (Nat.le_of_lt (blk_lt blk)))
  have tl : (s.extract k s.size).data.toList = (by8 s).drop k := by
    have := by8_extract s k s.size
    rw [List.take_of_length_le (by rw [List.length_drop, by8_size]; omega)] at this
    exact this
  rw [tl, ← hcw.out] at ho3
  have hcl : (codeW (lastW [] l) (by8 s)).length ≤ 82 := by have := codeW_le (lastW [] l) (by8 s); rw [by8_size] at this; omega
  clear hcw tl
  generalize codeW (lastW [] l) (by8 s) = cw at ho3 hcl HbO
  obtain ⟨A3, c3, rfl, hl3, hA3⟩ := ho3.form
  have kc := RB.str (P := Try.prog) (w := w3.drew) (src := 36) (dst := 9) Try.underlying36 Try.underlying5 Try.underlying9 (RB.of_own ho3).drew cw.length c3 rfl
  unfold OS at oB3
  rw [HBl.out] at oB3
  obtain ⟨gB, cB, rfl, hgB, hcB⟩ := own_pos oB3 (by omega)
  have hap := Lib.hid hap.out
  have hbl1 : b < b + 1 := by omega
  have c2 := blk_cell (j := 2) blk3
  have cb : w3.cell? ⟨gB, b, none⟩ = some (vs bx) := by
    rw [World.ownsRow.cellAt oB3 b (by omega), List.getElem?_map, HbX.out]; rfl
  have fb := World.ownsRow.frozenAt oB3 b
  have s1 : (str bx).size ≤ 400 := by rw [str_size]; exact hlen
  have s2 : (str cw).size ≤ 82 := by rw [str_size]; exact hcl
  unfold vs at cb
  have hD := Lib.hid (dat_old (w := w) (w3 := w3.drew) (l' := l ++ [by8 s]) (bx := bx) (cw := cw) rfl blk3 (by simp) oH3 oB3 HhO.out HbO.out HBl.out hap.out bel3.drew)
  have hgg := hgB
  clear ho3 hb2 hb3 ho2 blk oH oB bel hbT HLk HN
  have hwb : IntKind.i64.wrap (b : Int) = (b : Int) := by rw [IntKind.wrap_i64]; omega
  simp only [Act.put, List.getElem_toArray, List.getElem_cons_succ, List.getElem_cons_zero, List.setIfInBounds_toArray, List.set_cons_zero, List.set_cons_succ]
  go_wp2_with fail
  go_region
  all_goals go_wp2
  all_goals go_returns
  all_goals exact ⟨rfl, _, _, hD.out.1, hD.out.2⟩
end Go.Proofs.Ytjmojfhkajknlaa
