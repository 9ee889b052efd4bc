/- A page's bytes, an act, a fuse: the walks. -/
import Derived.Test.YtjfpanamkkdebaaPgB
import Derived.Test.YtjfpanamkkdebaaByt
import Derived.Lib.BufferWrite
import Derived.Lib.BufferOwn
namespace Go.Proofs.Ytjfpanamkkdebaa
open Go.RowKit
set_option linter.unusedVariables false
set_option maxRecDepth 100000
set_option linter.unusedSimpArgs false
section
variable {P : Program} (w : World)
/-- copy(b, s), b a row of the call's own that holds as many bytes. -/
theorem wpList_copy_str {ops : Array Oper} {rest : List Oper} {o : Oper} {a : Act} {Q : Exit → Act → World → Prop} (hgd : o.guard = none) (d s : Operand) (dT sT : TypeId)
    (ho : o.op = .call { callee := .builtin .copy, args := #[d, s], argTypes := #[dT, sT] }) (base : Nat) (e : TypeId) (hu : P.underlying dT = some (.slice e)) (hsz : (P.info? e).map (·.size) = some 1)
    (g n c : Nat) (xs : List Value) (hd : a.eval d = .slice (some ⟨g, 0, none⟩) n c) (hown : w.ownsRow base e 1 (.slice (some ⟨g, 0, none⟩) n c) n xs) (t : ByteArray) (hs : a.eval s = .string t) (hle : t.size ≤ n)
    (h : ∀ w', w'.ownsRow base e 1 (.slice (some ⟨g, 0, none⟩) n c) n (Lib.byteCells t.data.toList ++ xs.drop t.size) → w.grownBy w' (some g) → wpList P ops Q rest (a.put o.dst (goInt t.size)) w') : wpList P ops Q (o :: rest) a w := by
  rcases hown.2 with ⟨hv, _⟩ | ⟨g', cap, cur, hv, h1, h2, h3, h4, h5, h6⟩
  · injection hv with e1; cases e1
  · injection hv with e1 _ e3
    injection e1 with e1
    injection e1 with e1
    subst e1
    subst e3
    have hl : (Lib.byteCells t.data.toList).length = t.size := by rw [Lib.byteCells_length, ← Lib.size_eq]
    have hxl := hown.1
    have hrun := Lib.run_copy_row_string (P := P) w dT sT o.type e g 0 n c t cur e hu hsz h2 hle (by omega)
    simp only [List.take_zero, List.nil_append, Nat.zero_add] at hrun
    refine wpList_plain hgd fun K hK => ?_
    unfold Oper.wp
    simp only [execOp, ho, resolve, invoke, builtin, Sem.run_bind, Sem.run_pure, Result.andThen_ok, List.map_toArray, List.map_cons, List.map_nil, hd, hs, hrun]
    refine hK _ _ (h _ ⟨by rw [List.length_append, hl, List.length_drop]; omega, .inr ⟨g, c, (Lib.byteCells t.data.toList ++ cur.toList.drop t.size).toArray, rfl, h1, ?_, h3, h4, ?_, ?_⟩⟩ ⟨rfl, rfl, rfl, ?_, fun k hk hne => setRow_other w g k _ (fun e => hne (by rw [e]))⟩)
    · simp [World.setRow, Array.getElem?_modify, h2]
    · have hcl : cur.toList.length = c := by rw [Array.length_toList]; omega
      rw [List.size_toArray, List.length_append, hl, List.length_drop, hcl]; omega
    · simp only [Nat.mul_one] at h6 ⊢
      rw [← h6, List.take_append, hl, List.take_of_length_le (by omega), List.drop_take]
    · simp [World.setRow]
end
theorem bc_map (bs : List UInt8) : Lib.byteCells bs = bs.map vb := rfl
set_option maxHeartbeats 800000 in
theorem full_any (s : List UInt8) (w : World) (hs : s.length ≤ 128) :
    Calls Try.prog 34 #[.string (str s)] w fun e w' => ∃ v, e = .returned v ∧ OB w' w.heap.size v (pad s) ∧ Below w.heap.size w w' := by
  have HML : Hid (maxLen = 9223372036854775807) := rfl
  go_enter Try.func34, Try.ntmps34
  go_wp2_with (first
    | (refine wpList_mk _ rfl _ _ 29 rfl w.heap.size 5 _ 1 Try.underlying29 info_u8 rfl _ _ _ _ 128 128 rfl rfl (by rfl) (by rfl) (by omega) (by omega) (by rw [HML.out]; omega) (Nat.le_refl _) ?_; intro w1 hown1 hg1)
    | (refine wpList_copy_str _ rfl _ _ _ _ rfl w.heap.size 5 Try.underlying29 (by rfl) w.heap.size 128 128 _ rfl hown1 (str s) rfl (by rw [str_size]; omega) ?_; intro w2 hown2 hg2))
  go_ret
  have hb1 : Below w.heap.size w w1 := (Below.refl _ _).grown hg1 (Nat.le_refl _) (by intro k hk; cases hk)
  have hb2 := hb1.grown hg2 hb1.size (by intro k hk; injection hk with hk; omega)
  refine ⟨_, rfl, OB.mk hown2 (by rw [pad_length hs]) ?_, hb2⟩
  rw [bc_map, str_toList, str_size, List.drop_replicate]
  simp [pad, vb]
end Go.Proofs.Ytjfpanamkkdebaa
