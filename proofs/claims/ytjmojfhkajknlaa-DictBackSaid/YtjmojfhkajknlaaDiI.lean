/- All words of a dictionary, its bytes, the word of a place: the walks. -/
import Derived.Test.YtjmojfhkajknlaaDiH
namespace Go.Proofs.Ytjmojfhkajknlaa
open Go.RowKit
set_option linter.unusedVariables false
set_option linter.unusedSimpArgs false
theorem vs_one (l : List (List UInt8)) : ∀ u ∈ l.map vs, u.oneCell' = true := by
  intro u hu
  obtain ⟨x, _, rfl⟩ := List.mem_map.1 hu
  rfl
theorem OS.lies {w : World} {base : Nat} {v : Value} {l : List (List UInt8)} (h : OS w base v l) : ∃ A c, v = .slice A l.length c ∧ Lies w A (l.map vs) ∧ l.length ≤ c ∧ (A = none → c = 0) := by
  unfold OS at h
  obtain ⟨A, c, rfl, hc⟩ := own_form h
  refine ⟨A, c, rfl, Lies.of_own h, hc, fun e => ?_⟩
  rcases h.2 with ⟨hv, h0⟩ | ⟨g, cap, cur, hv, _⟩
  · injection hv with _ _ e3
  · subst e; injection hv with e1; cases e1
theorem OS.mono {w : World} {base base' : Nat} {v : Value} {l : List (List UInt8)} (h : OS w base v l) (hb : base' ≤ base) : OS w base' v l := by
  refine ⟨h.1, ?_⟩
  rcases h.2 with h | ⟨g, cap, cur, hv, hg, r⟩
  · exact .inl h
  · exact .inr ⟨g, cap, cur, hv, Nat.le_trans hb hg, r⟩
set_option maxHeartbeats 3200000 in
theorem words_any (g : Nat) (l : List (List UInt8)) (w : World) (h : DOk w g l) (hm : l.length ≤ 16384) (hx : ∀ x ∈ l, x.length ≤ 64) :
    Calls Try.prog 14 #[.pointer (some ⟨g, 0, none⟩)] w fun e w' => ∃ v, e = .returned v ∧ OS w' w.heap.size v l ∧ Below w.heap.size w w' := by
  have HML : Hid (maxLen = 9223372036854775807) := rfl
  have HL := Lib.hid (len_any g l w h)
  obtain ⟨n, hn⟩ : ∃ n, n = l.length := ⟨_, rfl⟩
  rw [← hn] at HL
  by_cases h0 : n = 0
  · have hl : l = [] := List.eq_nil_of_length_eq_zero (by omega)
    subst hl
    have hq : ((n : Int) == 0) = true := by rw [beq_iff_eq]; omega
    clear hn h0
    go_enter Try.func14, Try.ntmps14
    go_wp2_with (go_at_call 12; refine HL.out.mono ?_; rintro e w' ⟨rfl, rfl⟩)
    go_ret
    exact ⟨_, rfl, World.ownsRow_nil _ _ _ _, Below.refl _ _⟩
  · have hq : ((n : Int) == 0) = false := by rw [beq_eq_false_iff_ne]; omega
    obtain ⟨A, c, B, d, h1, h2, h3⟩ := id h
    have k1 : w.cell? ⟨g, 1, none⟩ = some (.slice A (nblk l.length) c) := blk_cell h1
    clear h1 h2 h3
    obtain ⟨nb, hnb⟩ : ∃ nb, nb = nblk l.length := ⟨_, rfl⟩
    rw [← hnb] at k1
    have hnb2 : nb ≤ 16384 := by rw [hnb]; unfold nblk; omega
    have HFl := Lib.hid (fun b hb => flat_grp l b hb)
    have HAll : Hid (l.take (4 * nb) = l) := List.take_of_length_le (by rw [hnb]; unfold nblk; omega)
    have HBk : Hid (∀ (b : Nat) w', Below w.heap.size w w' → b < nb → Calls Try.prog 26 #[.pointer (some ⟨g, 0, none⟩), .int .i64 b] w' fun e w'' => ∃ A c, e = .returned (.slice A (grp l b).length c) ∧ Lies w'' A ((grp l b).map vs) ∧ (A = none → c = 0) ∧ Below w'.heap.size w' w'' ∧ (grp l b).length ≤ 4 ∧ l.take (4 * (b + 1)) = l.take (4 * b) ++ grp l b) := by
      intro b w' hb hbn
      refine (block_any g l b w' (h.below hb) (by rw [hnb] at hbn; unfold nblk at hbn; omega) hm hx).mono ?_
      rintro e w'' ⟨v, rfl, ⟨A, c, rfl, hL, hc, hA⟩, hb2⟩
      refine ⟨A, c, rfl, hL, hA, hb2, by rw [grp_length]; omega, ?_⟩
      rw [show 4 * (b + 1) = 4 * b + 4 by omega, List.take_add]; rfl
    have hlen : ∀ b, (l.take (4 * b)).length ≤ 16384 := fun b => by rw [List.length_take]; omega
    have HLen := Lib.hid hlen
    clear hn h0 h hx hnb hlen
    go_enter Try.func14, Try.ntmps14
    go_wp2_with (go_at_call 12; refine HL.out.mono ?_; rintro e w' ⟨rfl, rfl⟩)
    go_loopg [3, 14] nb (fun r v i wr => ∃ j : Nat, j + r = nb ∧ i = .int .i64 j ∧ OS wr w.heap.size v (l.take (4 * j)) ∧ Below w.heap.size w wr)
    case atStart => exact ⟨0, by omega, rfl, World.ownsRow_nil _ _ _ _, Below.refl _ _⟩
    case round =>
      obtain ⟨j, hj, rfl, ho, hb⟩ := hrel
      by_cases hjn : j < nb
      · have hlj := HLen.out j
        go_wp2_with fail
        refine (HBk.out j _ hb hjn).mono ?_
        rintro e w2 ⟨A2, c2, rfl, hL2, hA2, hb2, hg4, hsn⟩
        have ho2 := ho.below hb2
        have hbb := hb.trans (hb2.mono hb.size)
        have HSn := Lib.hid hsn
        clear ho hb hb2 hsn
        unfold OS at ho2
        generalize grp l j = gr at hL2 hg4 HSn
        obtain ⟨tk, htk⟩ : ∃ tk, tk = l.take (4 * j) := ⟨_, rfl⟩
        rw [← htk] at ho2 hlj HSn
        clear htk
        have hs := hbb.size
        go_wp2_with (at_builtin; refine wpList_app _ rfl _ _ 22 rfl w.heap.size 9 _ 1 16 Try.underlying22 info_str rfl (by decide) _ tk.length (tk.map vs) rfl ho2 A2 gr.length c2 (gr.map vs) rfl (by simp) hL2 (vs_one gr) hA2 (by rw [HML.out]; omega) (by omega) hs ?_; intro v3 w3 hown3 hg3 _)
        have ho3 : OS w3 w.heap.size v3 (tk ++ gr) := by
          unfold OS
          rw [List.length_append, List.map_append]
          exact hown3
        have hb3 := hbb.grown hg3 hs (fun k hk => (World.ownsRow.lt ho2 k hk).1)
        clear hown3 hg3 ho2 hbb
        go_roundg (nb - (j + 1))
        case measure => omega
        case rel => exact ⟨j + 1, by omega, by go_num, by rw [HSn.out]; exact ho3, hb3⟩
      · obtain rfl : j = nb := by omega
        rw [HAll.out] at ho
        go_wp2
        go_ret
        exact ⟨_, rfl, ho, hb⟩
end Go.Proofs.Ytjmojfhkajknlaa
