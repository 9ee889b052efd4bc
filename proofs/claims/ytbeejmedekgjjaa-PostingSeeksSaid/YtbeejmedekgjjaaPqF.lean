/- Postings alike: the walks of SameList and few. -/
import Derived.Test.YtbeejmedekgjjaaPoB
namespace Go.Proofs.Ytbeejmedekgjjaa
open Go.RowKit
set_option linter.unusedVariables false
set_option linter.unusedSimpArgs false
theorem map_at {α β : Type} {f : α → β} {l m : List α} (h : l.map f = m.map f) {j : Nat} (hj : j < l.length) (hm : j < m.length) : f l[j] = f m[j] := by
  have h1 : (l.map f)[j]'(by rw [List.length_map]; exact hj) = (m.map f)[j]'(by rw [List.length_map]; exact hm) := by simp only [h]
  rwa [List.getElem_map, List.getElem_map] at h1
theorem map_len {α β : Type} {f : α → β} {l m : List α} (h : l.map f = m.map f) : l.length = m.length := by
  have := congrArg List.length h
  rwa [List.length_map, List.length_map] at this
set_option maxRecDepth 100000 in
set_option maxHeartbeats 6400000 in
theorem samelist_any (A B : Option Addr) (c d : Nat) (ls ms : List LPost) (w : World) (h : Posts w A c ls) (k : Posts w B d ms) (he : ls.map LPost.p = ms.map LPost.p) :
    Calls Try.prog 15 #[.slice A ls.length c, .slice B ms.length d] w fun e w' => e = .returned (.bool true) ∧ Below w.heap.size w w' := by
  have hlen := map_len he
  have HL := Lib.hid hlen
  rw [← hlen]
  have HLi := Lib.hid h.li
  have HIs := Lib.hid h.i
  have HLk := Lib.hid k.li
  have HIk := Lib.hid k.i
  have HE := Lib.hid he
  have hm := h.m
  have q0 : ((ls.length : Int) != (ls.length : Int)) = false := by rw [bne_eq_false_iff_eq]
  clear h k he hlen
  go_enter Try.func15, Try.ntmps15
  go_wp2_with fail
  go_loopg [20] ls.length (fun r i wr => ∃ j : Nat, j + r = ls.length ∧ i = .int .i64 j ∧ Below w.heap.size w wr)
  case atStart => exact ⟨0, by omega, rfl, Below.refl _ _⟩
  case round =>
    obtain ⟨j, hj, rfl, hb⟩ := hrel
    by_cases hjl : j < ls.length
    · have hjm : j < ms.length := by rw [← HL.out]; exact hjl
      obtain ⟨a, rfl, hc⟩ := flat_get pk_length (by decide) (HLi.out.below hb) j hjl
      obtain ⟨b, rfl, hc'⟩ := flat_get pk_length (by decide) (HLk.out.below hb) j hjm
      have hk := (HIs.out _ (List.getElem_mem hjl)).below hb
      have hk' := (HIk.out _ (List.getElem_mem hjm)).below hb
      have hpe := map_at HE.out hjl hjm
      generalize ls[j] = p at hc hk hpe
      generalize ms[j] = p' at hc' hk' hpe
      obtain ⟨x, S, cS, sp⟩ := p
      obtain ⟨x', S', cS', sp'⟩ := p'
      have hx : x = x' := congrArg Post.doc hpe
      have hsp : sp.map LSpot.p = sp'.map LSpot.p := congrArg Post.spots hpe
      subst hx
      have hsl := map_len hsp
      unfold pk at hc hc'
      simp only at hc hc'
      rw [← hsl] at hc'
      have HSl := Lib.hid hsl
      have HSp := Lib.hid hsp
      have HC := Lib.hid hc
      have HC' := Lib.hid hc'
      have hj1 : decide ((j : Int) < (ls.length : Int)) = true := decide_eq_true (by omega)
      have hj2 : (j : Int) < (ls.length : Int) := by omega
      have q1 : (x != x) = false := by rw [bne_eq_false_iff_eq]
      have q2 : ((sp.length : Int) != (sp.length : Int)) = false := by rw [bne_eq_false_iff_eq]
      have hkl := hk.li
      have hks := hk.s
      have hkm : sp.length ≤ 9223372036854775807 := hk.m
      have hkl' := hk'.li
      have hks' := hk'.s
      clear hc hc' hpe hsp hsl hk hk'
      have hb5 : Below wr.heap.size wr (wr.alloc (.cells #[.int .i64 x, .slice S sp.length cS] 40)) := (Below.refl _ _).alloc (Nat.le_refl _) _
      have hb6 : Below wr.heap.size wr ((wr.alloc (.cells #[.int .i64 x, .slice S sp.length cS] 40)).alloc (.cells #[.int .i64 x, .slice S' sp.length cS'] 40)) := hb5.alloc hb5.size _
      have HC5 : Hid (∀ j' v, [Value.int .i64 x, .slice S' sp.length cS'][j']? = some v → (wr.alloc (.cells #[.int .i64 x, .slice S sp.length cS] 40)).cell? ((b.add (j * 2)).add j') = some v) := fun j' v hv => by
        have := HC'.out j' v hv
        rw [World.cell?_alloc_lt _ _ _ (World.block_lt_of_cell? _ _ this)]; exact this
      have z0 : ((wr.alloc (.cells #[.int .i64 x, .slice S sp.length cS] 40)).alloc (.cells #[.int .i64 x, .slice S' sp.length cS'] 40)).cell? ⟨wr.heap.size, 0, none⟩ = some (.int .i64 x) := by go_cell
      have z1 : ((wr.alloc (.cells #[.int .i64 x, .slice S sp.length cS] 40)).alloc (.cells #[.int .i64 x, .slice S' sp.length cS'] 40)).cell? ⟨wr.heap.size, 1, none⟩ = some (.slice S sp.length cS) := by go_cell
      have y0 : ((wr.alloc (.cells #[.int .i64 x, .slice S sp.length cS] 40)).alloc (.cells #[.int .i64 x, .slice S' sp.length cS'] 40)).cell? ⟨wr.heap.size + 1, 0, none⟩ = some (.int .i64 x) := by go_cell
      have y1 : ((wr.alloc (.cells #[.int .i64 x, .slice S sp.length cS] 40)).alloc (.cells #[.int .i64 x, .slice S' sp.length cS'] 40)).cell? ⟨wr.heap.size + 1, 1, none⟩ = some (.slice S' sp.length cS') := by go_cell
      have hN6 : wr.heap.size + 1 < ((wr.alloc (.cells #[.int .i64 x, .slice S sp.length cS] 40)).alloc (.cells #[.int .i64 x, .slice S' sp.length cS'] 40)).heap.size := by simp
      have HKl := Lib.hid (hkl.below hb6)
      have HKs := Lib.hid (fun s hs => (hks s hs).below hb6)
      have HKl' := Lib.hid (hkl'.below hb6)
      have HKs' := Lib.hid (fun s hs => (hks' s hs).below hb6)
      have HB6 := Lib.hid (hb.trans (hb6.mono hb.size))
      clear hkl hks hkl' hks' hb5 hb6 hb
      go_upto_region 9 with (first
        | (refine wpList_load_any rfl 40 (.tmp 23) rfl _ rfl _ _ HC.out rfl rfl info_posting ?_)
        | (refine wpList_load_any rfl 40 (.tmp 27) rfl _ rfl _ _ HC5.out rfl rfl info_posting ?_))
      generalize ((wr.alloc (.cells #[.int .i64 x, .slice S sp.length cS] 40)).alloc (.cells #[.int .i64 x, .slice S' sp.length cS'] 40)) = W6 at *
      obtain ⟨N5, hN5⟩ : ∃ N5, wr.heap.size = N5 := ⟨_, rfl⟩
      rw [hN5] at z0 z1 y0 y1 hN6 ⊢
      clear hN5 HC HC' HC5
      go_wp2_with fail
      go_loopg [46] sp.length (fun r i wr => ∃ k : Nat, k + r = sp.length ∧ i = .int .i64 k ∧ Below W6.heap.size W6 wr)
      case atStart => exact ⟨0, by omega, rfl, Below.refl _ _⟩
      case round =>
        obtain ⟨k, hk, rfl, hb⟩ := hrel
        by_cases hkl : k < sp.length
        · have hkl' : k < sp'.length := by rw [← HSl.out]; exact hkl
          obtain ⟨a2, rfl, hc⟩ := flat_get sk_length (by decide) (HKl.out.below hb) k hkl
          obtain ⟨b2, rfl, hc'⟩ := flat_get sk_length (by decide) (HKl'.out.below hb) k hkl'
          have hk1 := (HKs.out _ (List.getElem_mem hkl)).below hb
          have hk2 := (HKs'.out _ (List.getElem_mem hkl')).below hb
          have hpe := map_at HSp.out hkl hkl'
          generalize sp[k] = p at hc hk1 hpe
          generalize sp'[k] = p' at hc' hk2 hpe
          obtain ⟨f, A1, c1, l⟩ := p
          obtain ⟨f', A2, c2, l'⟩ := p'
          have hf : f = f' := congrArg Prod.fst hpe
          have hl : l = l' := congrArg Prod.snd hpe
          subst hf
          subst hl
          unfold sk at hc hc'
          simp only at hc hc'
          have HC := Lib.hid hc
          have HC' := Lib.hid hc'
          have hj2' : decide ((k : Int) < (sp.length : Int)) = true := decide_eq_true (by omega)
          have hj3' : (k : Int) < (sp.length : Int) := by omega
          have q3 : (f != f) = false := by rw [bne_eq_false_iff_eq]
          have q4 : ((l.length : Int) != (l.length : Int)) = false := by rw [bne_eq_false_iff_eq]
          have y1r : wr.cell? ⟨N5 + 1, 1, none⟩ = some (.slice (some b2) sp.length cS') := by rw [← y1]; exact hb.cell (p := ⟨N5 + 1, 1, none⟩) hN6
          have hl1 := hk1.li
          have hl2 := hk2.li
          have hlm := hk1.m
          have hb7 : Below wr.heap.size wr (wr.alloc (.cells #[.int .i64 f, .slice A1 l.length c1] 46)) := (Below.refl _ _).alloc (Nat.le_refl _) _
          have hb8 : Below wr.heap.size wr ((wr.alloc (.cells #[.int .i64 f, .slice A1 l.length c1] 46)).alloc (.cells #[.int .i64 f, .slice A2 l.length c2] 46)) := hb7.alloc hb7.size _
          have HC5 : Hid (∀ j' v, [Value.int .i64 f, .slice A2 l.length c2][j']? = some v → (wr.alloc (.cells #[.int .i64 f, .slice A1 l.length c1] 46)).cell? ((b2.add (k * 2)).add j') = some v) := fun j' v hv => by
            have := HC'.out j' v hv
            rw [World.cell?_alloc_lt _ _ _ (World.block_lt_of_cell? _ _ this)]; exact this
          have y1s : (wr.alloc (.cells #[.int .i64 f, .slice A1 l.length c1] 46)).cell? ⟨N5 + 1, 1, none⟩ = some (.slice (some b2) sp.length cS') := by
            rw [World.cell?_alloc_lt _ _ _ (World.block_lt_of_cell? _ _ y1r)]; exact y1r
          have v0 : ((wr.alloc (.cells #[.int .i64 f, .slice A1 l.length c1] 46)).alloc (.cells #[.int .i64 f, .slice A2 l.length c2] 46)).cell? ⟨wr.heap.size, 0, none⟩ = some (.int .i64 f) := by go_cell
          have v1 : ((wr.alloc (.cells #[.int .i64 f, .slice A1 l.length c1] 46)).alloc (.cells #[.int .i64 f, .slice A2 l.length c2] 46)).cell? ⟨wr.heap.size, 1, none⟩ = some (.slice A1 l.length c1) := by go_cell
          have u0 : ((wr.alloc (.cells #[.int .i64 f, .slice A1 l.length c1] 46)).alloc (.cells #[.int .i64 f, .slice A2 l.length c2] 46)).cell? ⟨wr.heap.size + 1, 0, none⟩ = some (.int .i64 f) := by go_cell
          have u1 : ((wr.alloc (.cells #[.int .i64 f, .slice A1 l.length c1] 46)).alloc (.cells #[.int .i64 f, .slice A2 l.length c2] 46)).cell? ⟨wr.heap.size + 1, 1, none⟩ = some (.slice A2 l.length c2) := by go_cell
          have hN8 : wr.heap.size + 1 < ((wr.alloc (.cells #[.int .i64 f, .slice A1 l.length c1] 46)).alloc (.cells #[.int .i64 f, .slice A2 l.length c2] 46)).heap.size := by simp
          have HL1 := Lib.hid (hl1.below hb8)
          have HL2 := Lib.hid (hl2.below hb8)
          have HB8 := Lib.hid (hb.trans (hb8.mono hb.size))
          clear hc hc' hpe hk1 hk2 hl1 hl2 hb7 hb8 hb y1r
          go_upto_region 15 with (first
            | (refine wpList_load_any rfl 46 (.tmp 49) rfl _ rfl _ _ HC.out rfl rfl info_spot ?_)
            | (refine wpList_load_any rfl 46 (.tmp 54) rfl _ rfl _ _ HC5.out rfl rfl info_spot ?_))
          generalize ((wr.alloc (.cells #[.int .i64 f, .slice A1 l.length c1] 46)).alloc (.cells #[.int .i64 f, .slice A2 l.length c2] 46)) = W8 at *
          obtain ⟨N7, hN7⟩ : ∃ N7, wr.heap.size = N7 := ⟨_, rfl⟩
          rw [hN7] at v0 v1 u0 u1 hN8 ⊢
          clear hN7 HC HC' HC5 y1s
          go_wp2_with fail
          go_loopg [73] l.length (fun r i wr => ∃ m : Nat, m + r = l.length ∧ i = .int .i64 m ∧ wr = W8)
          case atStart => exact ⟨0, by omega, rfl, rfl⟩
          case round =>
            obtain ⟨m, hm', rfl, rfl⟩ := hrel
            by_cases hml : m < l.length
            · obtain ⟨a3, rfl, hc⟩ := (HL1.out).at (k := m) (by simpa using hml)
              obtain ⟨b3, rfl, hc'⟩ := (HL2.out).at (k := m) (by simpa using hml)
              rw [List.getElem_map] at hc hc'
              generalize l[m] = z at hc hc'
              have q5 : (z != z) = false := by rw [bne_eq_false_iff_eq]
              have hm1 : decide ((m : Int) < (l.length : Int)) = true := decide_eq_true (by omega)
              have hm2 : (m : Int) < (l.length : Int) := by omega
              go_wp2_with fail
              go_roundg (l.length - (m + 1))
              case measure => omega
              case rel => exact ⟨m + 1, by omega, by go_num, rfl⟩
            · obtain rfl : m = l.length := by omega
              go_wp2_with fail
              go_roundg (sp.length - (k + 1))
              case measure => omega
              case rel => exact ⟨k + 1, by omega, by go_num, HB8.out⟩
        · obtain rfl : k = sp.length := by omega
          go_wp2_with fail
          go_roundg (ls.length - (j + 1))
          case measure => omega
          case rel => exact ⟨j + 1, by omega, by go_num, HB6.out.trans (hb.mono HB6.out.size)⟩
    · obtain rfl : j = ls.length := by omega
      go_wp2_with fail
      go_returns
      exact ⟨rfl, hb⟩
end Go.Proofs.Ytbeejmedekgjjaa
