/- Where a word stands in a dictionary: Seek. -/
import Derived.Test.YtjmojfhkajknlaaDiQ
namespace Go.Proofs.Ytjmojfhkajknlaa
open Go.RowKit
set_option linter.unusedVariables false
set_option linter.unusedSimpArgs false
set_option maxHeartbeats 3200000 in
theorem seek_any (g : Nat) (l : List (List UInt8)) (s : ByteArray) (m : Nat) (w : World) (hd : DOk w g l) (hne : l ≠ []) (hck : chk [] l = true) (hm : l.length ≤ 16384) (hb : Bnd l (lessP (by8 s)) m) :
    Calls Try.prog 20 #[.pointer (some ⟨g, 0, none⟩), .string s] w fun e w' => e = .returned (.tuple #[.int .i64 m, .bool (l.contains (by8 s))]) ∧ Below w.heap.size w w' := by
  have hlp : 0 < l.length := List.length_pos_iff.2 hne
  obtain ⟨k, hk⟩ := bnd_most hck (by8 s)
  have hpt := bnd_part hck hb hk
  have hhd := bnd_heads hk
  have hx := chk_len hck
  have b0 := ((Below.refl w.heap.size w).alloc (Nat.le_refl _) (.cells #[.pointer (some ⟨g, 0, none⟩)] 25)).alloc (by simp) (.cells #[.string s] 9)
  have cd : ((w.alloc (.cells #[.pointer (some ⟨g, 0, none⟩)] 25)).alloc (.cells #[.string s] 9)).cell? ⟨w.heap.size, 0, none⟩ = some (.pointer (some ⟨g, 0, none⟩)) := tmp_under _ _ _ _
  have cx : ((w.alloc (.cells #[.pointer (some ⟨g, 0, none⟩)] 25)).alloc (.cells #[.string s] 9)).cell? ⟨w.heap.size + 1, 0, none⟩ = some (.string s) := tmp_next _ _ _ _
  have hd2 := hd.below b0
  have hs0 : w.heap.size ≤ ((w.alloc (.cells #[.pointer (some ⟨g, 0, none⟩)] 25)).alloc (.cells #[.string s] 9)).heap.size := b0.size
  have HLn := Lib.hid (len_any g l _ hd2)
  obtain ⟨A, c, B, d, h1, _, _⟩ := id hd2
  have k1 : ((w.alloc (.cells #[.pointer (some ⟨g, 0, none⟩)] 25)).alloc (.cells #[.string s] 9)).cell? ⟨g, 1, none⟩ = some (.slice A (nblk l.length) c) := blk_cell h1
  have hq : ((l.length : Int) == 0) = false := by rw [beq_eq_false_iff_ne]; omega
  obtain ⟨q, hqd⟩ : ∃ q, q = l.contains (by8 s) := ⟨_, rfl⟩
  rw [← hqd] at hpt ⊢
  have HQ := Lib.hid hqd
  clear hqd
  go_enter Try.func20, Try.ntmps20
  go_wp2_with fail
  generalize (w.alloc (.cells #[.pointer (some ⟨g, 0, none⟩)] 25)).alloc (.cells #[.string s] 9) = W at b0 cd cx hd2 hs0 HLn k1 h1 ⊢
  refine HLn.out.mono ?_
  rintro e w' ⟨rfl, rfl⟩
  have hld := World.block_lt_of_cell? _ _ cd
  have hlx := World.block_lt_of_cell? _ _ cx
  have hnb := headsL_length l
  have hn4 : nblk l.length ≤ 16384 := by unfold nblk; omega
  have hS1 := search_any 34 #[.pointer (some ⟨w.heap.size, 0, none⟩), .pointer (some ⟨w.heap.size + 1, 0, none⟩)] (headsL l).length (nblk k) (fun i => !atMost (by8 s) ((headsL l).getD i [])) W (fun args w => enters_of Try.func34 (by kernel_rfl) rfl args w) (by omega)
    (fun w' i hb hi => hclos_any w.heap.size (w.heap.size + 1) g l s i w' (hd2.below hb) hi ((hb.cell (p := ⟨w.heap.size, 0, none⟩) hld).trans cd) ((hb.cell (p := ⟨w.heap.size + 1, 0, none⟩) hlx).trans cx) hm)
    hhd.le (fun t ht => by have := hhd.le; rw [getD_at _ t [] (by omega), hhd.yes t (by omega) ht]; rfl) (fun t h1 h2 => by rw [getD_at _ t [] h2, hhd.no t h2 h1]; rfl)
  rw [hnb] at hS1
  have HS1 := Lib.hid hS1
  have HB0 := Lib.hid b0
  have hnk : nblk k ≤ nblk l.length := by rw [← hnb]; exact hhd.le
  clear hS1 hhd hnb HLn b0 h1 hd
  by_cases hk0 : k = 0
  · have hz : Hid (nblk k = 0) := by show _ = _; rw [hk0]; rfl
    have hcn : Hid (q = false) := by
      show q = false
      cases e : q with
      | false => rfl
      | true => have := (hpt.2 e).1; omega
    have hmz : Hid (m = 0) := by show m = 0; have := hpt.1 hcn.out; omega
    rw [hz.out] at HS1
    have hc0 : (((0 : Nat) : Int) - 1) = -1 := by decide
    clear hz hpt hk hb hnk hk0
    go_wp2_with (go_at_call 33; refine HS1.out.mono ?_; rintro e w2 ⟨rfl, hb2⟩)
    go_ret2
    exact ⟨by rw [hcn.out, hmz.out]; rfl, HB0.out.trans (hb2.mono hs0)⟩
  · obtain ⟨b, hbk⟩ : ∃ b, nblk k = b + 1 := ⟨nblk k - 1, by unfold nblk; omega⟩
    have hkl := hk.le
    have hmk : m ≤ k ∧ k ≤ m + 1 := by
      cases e : q with
      | false => have := hpt.1 e; omega
      | true => have := (hpt.2 e).1; omega
    have hbb : 4 * b < k ∧ k ≤ 4 * b + 4 := by unfold nblk at hbk; omega
    have hbl : 4 * b < l.length := by omega
    have hgb := bnd_grp hb (b := b) (by omega) (by
      cases e : q with
      | false => have := hpt.1 e; omega
      | true => have := (hpt.2 e).1; omega) hbl
    obtain ⟨z, hz⟩ : ∃ z, z = m - 4 * b := ⟨_, rfl⟩
    rw [← hz] at hgb
    have HBk : Hid (∀ w', Below W.heap.size W w' → Calls Try.prog 26 #[.pointer (some ⟨g, 0, none⟩), .int .i64 b] w' fun e w'' => ∃ v, e = .returned v ∧ (∃ A c, v = .slice A (grp l b).length c ∧ Lies w'' A ((grp l b).map vs) ∧ (grp l b).length ≤ c ∧ (A = none → c = 0)) ∧ Below w'.heap.size w' w'') := fun w' hb' => block_any g l b w' (hd2.below hb') hbl hm hx
    have hzl := hgb.le
    have hg4 : (grp l b).length ≤ 4 := by rw [grp_length]; omega
    have HAt : Hid (∀ (h : z < (grp l b).length), ((grp l b)[z] == by8 s) = q) := by
      intro h
      rw [grp_length] at h
      rw [grp_at l (by omega) (by omega)]
      cases e : q with
      | false =>
        rw [beq_eq_false_iff_ne]
        intro e2
        have : l.contains (by8 s) = true := List.contains_iff_mem.2 (by rw [← e2]; exact List.getElem_mem _)
        rw [← HQ.out, e] at this; cases this
      | true =>
        obtain ⟨_, hl, he⟩ := hpt.2 e
        rw [beq_iff_eq, ← he]
        congr 1
        omega
    have HAt2 : Hid (¬ z < (grp l b).length → q = false) := by
      intro h
      rw [grp_length] at h
      cases e : q with
      | false => rfl
      | true => obtain ⟨h1, hl, he⟩ := hpt.2 e; omega
    have HSs : Hid (∀ w' A c, Lies w' A ((grp l b).map vs) → Calls Try.prog 35 #[.slice A (grp l b).length c, .string s] w' fun e w'' => e = .returned (.int .i64 z) ∧ Below w'.heap.size w' w'') := fun w' A c hL => ssearch_any A c (grp l b) s z w' hL hgb (by omega)
    have hzm : ((b : Int) * 4 + (z : Int)) = (m : Int) := by omega
    have hb16 : b ≤ 16384 := by omega
    rw [hbk] at HS1
    have hc1 : (((b + 1 : Nat) : Int) - 1) = (b : Int) := by omega
    generalize grp l b = gr at HBk hzl hg4 HAt HAt2 HSs
    have HZ := Lib.hid hz
    clear hpt hk hb hgb hnk hz hd2 hx hbb hmk hck
    go_wp2_with fail
    refine HS1.out.mono ?_
    rintro e w2 ⟨rfl, hb2⟩
    have cd2 := (hb2.cell (p := ⟨w.heap.size, 0, none⟩) hld).trans cd
    have cx2 := (hb2.cell (p := ⟨w.heap.size + 1, 0, none⟩) hlx).trans cx
    go_wp2_with fail
    refine (HBk.out _ hb2).mono ?_
    rintro e w3 ⟨v3, rfl, ⟨A3, c3, rfl, hL3, hc3, hA3⟩, hb3⟩
    have hb23 := hb2.trans (hb3.mono hb2.size)
    have cx3 := (hb23.cell (p := ⟨w.heap.size + 1, 0, none⟩) hlx).trans cx
    go_wp2_with fail
    refine (HSs.out _ A3 c3 hL3).mono ?_
    rintro e w4 ⟨rfl, hb4⟩
    have hb24 := hb23.trans (hb4.mono hb23.size)
    have cx4 := (hb24.cell (p := ⟨w.heap.size + 1, 0, none⟩) hlx).trans cx
    have hL4 := hL3.below hb4
    have hbT := HB0.out.trans (hb24.mono hs0)
    clear hb2 hb3 hb4 hb23 hb24 cx3 cx2 cd2 cd cx hL3 HBk HSs HS1
    by_cases hzg : z < gr.length
    · obtain ⟨a4, rfl, hc4⟩ := hL4.at (k := z) (by simpa using hzg)
      rw [List.getElem_map] at hc4
      have hv : Hid (((str gr[z]).toList == s.toList) = q) := by show _ = _; rw [str_toList', by8_to]; exact HAt.out hzg
      unfold vs at hc4
      generalize gr[z] = y at hc4 hv
      have h0 : (0 : Int) ≤ (z : Int) := by omega
      have h1 : (z : Int) < (gr.length : Int) := by omega
      have hq1 : decide (z < gr.length) = true := decide_eq_true hzg
      clear hL4 HAt HAt2
      go_wp2_with fail
      go_quiet (fail)
      go_wp2
      go_ret2
      exact ⟨by rw [← hv.out]; rfl, below_drewN hbT _⟩
    · have hq1 : decide (z < gr.length) = false := decide_eq_false hzg
      have HF := Lib.hid (HAt2.out hzg)
      clear hL4 HAt HAt2
      go_wp2_with fail
      go_quiet (fail)
      go_wp2
      go_ret2
      exact ⟨by rw [HF.out]; rfl, below_drewN hbT _⟩
end Go.Proofs.Ytjmojfhkajknlaa
