/- A set's bytes; a set of a set's bytes. -/
import Derived.Test.YtopgikjmeebgbaaDoorCo6
import Derived.Test.YtopgikjmeebgbaaDoorBm
import Derived.Deep.Cut
namespace Go.Proofs.YtopgikjmeebgbaaDoor
open Go.RowKit
set_option linter.unusedVariables false
set_option linter.unusedSimpArgs false
theorem up_rise {r : List Int} (h : Up r) : rise r = r := by
  have hl := rise_length_le r
  rcases Nat.lt_or_ge (rise r).length r.length with hlt | hge
  · have := (rise_step (l := r) (Nat.le_refl _) hlt).2 (h _ hlt)
    omega
  · rw [rise_eq_take r, List.take_of_length_le hge]
theorem mem_ix : ∀ (l : List Bool) (o : Nat) (z : Int), z ∈ ix l o ↔ ∃ k : Nat, z = ((o + k : Nat) : Int) ∧ l[k]? = some true
  | [], o, z => by simp [ix]
  | b :: l, o, z => by
    have ih := mem_ix l (o + 1) z
    constructor
    · intro h
      rw [ix] at h
      cases b with
      | true =>
        rw [if_pos rfl] at h
        rcases List.mem_cons.1 h with h | h
        · exact ⟨0, by rw [h]; rfl, rfl⟩
        · obtain ⟨k, h1, h2⟩ := ih.1 h
          exact ⟨k + 1, by rw [h1]; omega, by simpa using h2⟩
      | false =>
        rw [if_neg (by decide)] at h
        obtain ⟨k, h1, h2⟩ := ih.1 h
        exact ⟨k + 1, by rw [h1]; omega, by simpa using h2⟩
    · rintro ⟨k, h1, h2⟩
      rw [ix]
      cases k with
      | zero =>
        have hb : b = true := by simpa using h2
        rw [hb, if_pos rfl]
        exact List.mem_cons.2 (.inl (by rw [h1]; rfl))
      | succ k =>
        have hm : z ∈ ix l (o + 1) := ih.2 ⟨k, by rw [h1]; omega, by simpa using h2⟩
        split
        · exact List.mem_cons_of_mem _ hm
        · exact hm
theorem mem_idx (bs : List Bool) (z : Int) : z ∈ idx bs 0 ↔ ∃ k : Nat, z = (k : Int) ∧ bs[k]? = some true := by
  rw [idx, List.drop_zero, mem_ix]
  simp
theorem ix_pair : ∀ (l : List Bool) (o : Nat), (ix l o).Pairwise (· < ·)
  | [], _ => List.Pairwise.nil
  | b :: l, o => by
    rw [ix]
    split
    · refine List.pairwise_cons.2 ⟨fun z hz => ?_, ix_pair l (o + 1)⟩
      obtain ⟨k, h1, _⟩ := (mem_ix l (o + 1) z).1 hz
      omega
    · exact ix_pair l (o + 1)
theorem idx_up (bs : List Bool) : Up (idx bs 0) := by
  intro j hj
  have hp : (idx bs 0).Pairwise (· < ·) := ix_pair _ _
  cases j with
  | zero =>
    rw [List.take_zero, lastOf_nil]
    obtain ⟨k, h1, _⟩ := (mem_idx bs _).1 (List.getElem_mem hj)
    omega
  | succ j =>
    rw [List.take_succ_eq_append_getElem (show j < (idx bs 0).length by omega), lastOf_snoc]
    exact List.pairwise_iff_getElem.1 hp j (j + 1) _ hj (by omega)
theorem idx_bound (bs : List Bool) : ∀ z ∈ idx bs 0, 0 ≤ z ∧ z ≤ (bs.length : Int) - 1 := by
  intro z hz
  obtain ⟨k, h1, h2⟩ := (mem_idx bs z).1 hz
  have := (List.getElem?_eq_some_iff.1 h2).1
  omega
/-- A set's bytes. -/
def setBytes (bs : List Bool) : List UInt8 := numBytes bs.length ++ (numBytes (idx bs 0).length ++ gapBytes (-1) (idx bs 0))
theorem rising_idx (bs : List Bool) : risingBytes (idx bs 0) = numBytes (idx bs 0).length ++ gapBytes (-1) (idx bs 0) := by rw [risingBytes, up_rise (idx_up bs)]
set_option maxHeartbeats 1600000 in
theorem bytes_any (g W : Nat) (bs : List Bool) (w : World) (h : SetAt w g W bs) (hT : Tab w) :
    Calls Tryd.prog 31 #[.pointer (some ⟨g, 0, none⟩)] w fun e w' => ∃ v, e = .returned v ∧ OB w' w.heap.size v (setBytes bs) ∧ Below w.heap.size w w' := by
  have hsm := h.small
  have HS := Lib.hid (size_any g W bs w h)
  have HN := num_any none 0 [] bs.length w (by simp) (by omega) (fun _ => rfl) (Nat.le_refl _) (Lies.nil _ _)
  rw [List.nil_append, show numNat (bs.length : Int) = bs.length by unfold numNat; omega] at HN
  have HN := Lib.hid HN
  have HL := Lib.hid (fun w' (hb : Below w.heap.size w w') => list_any g W bs w' (h.below hb) (hT.below hb))
  have hll : (idx bs 0).length ≤ 65536 := Nat.le_trans (idx_len_le bs 0) hsm
  have hlb := Lib.hid (idx_bound bs)
  have hnl : (numBytes bs.length).length ≤ 9 := by rw [numBytes_length]; have := need_le bs.length; omega
  have HE : Hid (setBytes bs = numBytes bs.length ++ risingBytes (idx bs 0)) := by show _ = _; rw [setBytes, rising_idx]
  have HB2 : Hid (∀ z ∈ idx bs 0, -9223372036854775808 ≤ z ∧ z ≤ 9223372036854775807) := fun z hz => by have := hlb.out z hz; omega
  generalize idx bs 0 = l at HL hll HE HB2
  generalize numBytes bs.length = nb at HN hnl HE
  clear h hT
  go_enter Tryd.func31, Tryd.ntmps31
  go_wp2_with (first
    | (go_at_call 11; refine HS.out.mono ?_; rintro e w' ⟨rfl, rfl⟩; clear HS)
    | (go_at_call 52; refine HN.out.mono ?_; rintro e w1 ⟨v, rfl, ho, hb1⟩; obtain ⟨A1, c1, rfl, hl1, hA1⟩ := ho.form)
    | (go_at_call 29; refine (HL.out _ hb1).mono ?_; rintro e w2 ⟨v2, rfl, ho2, hb2⟩; obtain ⟨A2, c2, rfl, hl2, hA2⟩ := ho2.form; have HR := Lib.hid (rising_any A1 A2 c1 c2 nb l w2 (by omega) hA1 hl1 hl2 HB2.out ((RB.of_own ho).below hb2) (Lies.of_own ho2)))
    | (go_at_call 51; refine HR.out.mono ?_; rintro e w3 ⟨v3, rfl, ho3, hb3⟩))
  go_ret
  have hb02 := hb1.trans (hb2.mono hb1.size)
  exact ⟨_, rfl, by rw [HE.out]; exact ho3.mono hb02.size, hb02.trans (hb3.mono hb02.size)⟩
theorem setBytes_len (bs : List Bool) (h : bs.length ≤ 65536) : (setBytes bs).length ≤ 600000 := by
  have h1 := need_le bs.length
  have h2 := need_le (idx bs 0).length
  have h3 := gapBytes_le (idx bs 0) (-1)
  have h4 := idx_len_le bs 0
  rw [setBytes, List.length_append, List.length_append, numBytes_length, numBytes_length]
  omega
end Go.Proofs.YtopgikjmeebgbaaDoor
