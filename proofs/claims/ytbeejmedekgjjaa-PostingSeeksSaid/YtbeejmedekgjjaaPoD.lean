/- A posting's bytes: plain; the walk of put. -/
import Derived.Test.YtbeejmedekgjjaaPoC
namespace Go.Proofs.Ytbeejmedekgjjaa
open Go.RowKit
set_option linter.unusedVariables false
set_option linter.unusedSimpArgs false
def spotBytes (s : Spt) : List UInt8 := numBytes (numNat s.1) ++ risingBytes s.2
def postBytes (last : Int) (p : Post) : List UInt8 := numBytes (numNat (p.doc - last - 1)) ++ (numBytes p.spots.length ++ p.spots.flatMap spotBytes)
theorem numNat_nat (n : Nat) : numNat (n : Int) = n := by unfold numNat; omega
theorem upFrom_len (high : Int) : ∀ (l : List Int) (last : Int), upFrom last high l = true → (l.length : Int) ≤ max (high - last) 0
  | [], last, _ => by simp; omega
  | z :: l, last, h => by
    unfold upFrom at h
    simp only [Bool.and_eq_true, decide_eq_true_eq] at h
    have := upFrom_len high l z h.2
    rw [List.length_cons]
    omega
theorem upFrom_mem (high : Int) : ∀ (l : List Int) (last : Int), upFrom last high l = true → ∀ z ∈ l, last < z ∧ z ≤ high
  | [], last, _, z, hz => by cases hz
  | y :: l, last, h, z, hz => by
    unfold upFrom at h
    simp only [Bool.and_eq_true, decide_eq_true_eq] at h
    rcases List.mem_cons.1 hz with rfl | hz
    · exact ⟨h.1.1, h.1.2⟩
    · have := upFrom_mem high l y h.2 z hz
      omega
theorem placesB_len {l : List Int} (h : placesB l = true) : l.length ≤ 60 := by
  unfold placesB at h
  simp only [Bool.and_eq_true] at h
  have := upFrom_len 59 l (-1) h.1
  omega
structure Fits (p : Post) : Prop where
  d0 : 0 ≤ p.doc
  d1 : p.doc < 65536
  n0 : 0 < p.spots.length
  n1 : p.spots.length ≤ 4
  up : upFrom 0 4 (p.spots.map (·.1)) = true
  pl : ∀ s ∈ p.spots, placesB s.2 = true
  f : ∀ s ∈ p.spots, 1 ≤ s.1 ∧ s.1 ≤ 4
theorem fitsB_fits {p : Post} (h : fitsB p = true) : Fits p := by
  have hd := fitsB_doc h
  unfold fitsB spotsB at h
  simp only [Bool.and_eq_true, List.all_eq_true] at h
  obtain ⟨⟨⟨⟨h1, h2⟩, h3⟩, _⟩, _⟩ := h
  have hl := upFrom_len 4 _ _ h2
  rw [List.length_map] at hl
  refine ⟨hd.1, hd.2, ?_, by omega, h2, h1, fun s hs => ?_⟩
  · cases hsp : p.spots with
    | nil => rw [hsp] at h3; simp at h3
    | cons a b => simp
  · have := upFrom_mem 4 _ _ h2 s.1 (List.mem_map_of_mem hs)
    omega
theorem risingBytes_le (l : List Int) : (risingBytes l).length ≤ 9 + 9 * l.length := by
  unfold risingBytes
  rw [List.length_append, numBytes_length]
  have h1 := need_le (rise l).length
  have h2 := gapBytes_le (rise l) (-1)
  have h3 := rise_length_le l
  omega
theorem numBytes_le (x : Nat) : (numBytes x).length ≤ 9 := by rw [numBytes_length]; have := need_le x; omega
theorem spotBytes_le {s : Spt} (h : placesB s.2 = true) : (spotBytes s).length ≤ 558 := by
  unfold spotBytes
  rw [List.length_append]
  have h1 := numBytes_le (numNat s.1)
  have h2 := risingBytes_le s.2
  have h3 := placesB_len h
  omega
theorem spots_le : ∀ (l : List Spt), (∀ s ∈ l, placesB s.2 = true) → (l.flatMap spotBytes).length ≤ 558 * l.length
  | [], _ => by simp
  | s :: l, h => by
    rw [List.flatMap_cons, List.length_append, List.length_cons]
    have h1 := spotBytes_le (h s List.mem_cons_self)
    have h2 := spots_le l (fun s hs => h s (List.mem_cons_of_mem _ hs))
    omega
theorem postBytes_le {p : Post} (h : Fits p) (last : Int) : (postBytes last p).length ≤ 2250 := by
  unfold postBytes
  rw [List.length_append, List.length_append]
  have h1 := numBytes_le (numNat (p.doc - last - 1))
  have h2 := numBytes_le p.spots.length
  have h3 := spots_le p.spots h.pl
  have h4 := h.n1
  omega
set_option maxRecDepth 100000 in
set_option maxHeartbeats 3200000 in
theorem put_any (A : Option Addr) (cc : Nat) (bs : List UInt8) (p : LPost) (last : Int) (w : World) (hm : bs.length ≤ 140737488350000) (hA : A = none → cc = 0) (hlc : bs.length ≤ cc) (hr : RB w A bs)
    (hp : p.In w) (hf : fitsB p.p = true) (hl0 : -1 ≤ last) (hl1 : last ≤ 65536) :
    Calls Try.prog 22 #[.slice A bs.length cc, .agg #[.int .i64 p.d, .slice p.S p.spots.length p.c], .int .i64 last] w fun e w' => ∃ v, e = .returned v ∧ OB w' w.heap.size v (bs ++ postBytes last p.p) ∧ Below w.heap.size w w' := by
  obtain ⟨d, S, c, ls⟩ := p
  have hF := fitsB_fits hf
  have d0 : 0 ≤ d := hF.d0
  have d1 : d < 65536 := hF.d1
  have n1 : ls.length ≤ 4 := by have := hF.n1; simpa [LPost.p] using this
  have HPl : Hid (∀ s ∈ ls, placesB s.l = true ∧ 1 ≤ s.f ∧ s.f ≤ 4) := fun s hs => ⟨hF.pl _ (List.mem_map_of_mem hs), hF.f _ (List.mem_map_of_mem hs)⟩
  have hb0 : Below w.heap.size w (w.alloc (.cells #[.int .i64 d, .slice S ls.length c] 40)) := (Below.refl _ _).alloc (Nat.le_refl _) _
  have x0 : (w.alloc (.cells #[.int .i64 d, .slice S ls.length c] 40)).cell? ⟨w.heap.size, 0, none⟩ = some (.int .i64 d) := by go_cell
  have x1 : (w.alloc (.cells #[.int .i64 d, .slice S ls.length c] 40)).cell? ⟨w.heap.size, 1, none⟩ = some (.slice S ls.length c) := by go_cell
  have hI := hp.below hb0
  have hsz : w.heap.size < (w.alloc (.cells #[.int .i64 d, .slice S ls.length c] 40)).heap.size := by simp
  have HN1 := Lib.hid (num_any A cc bs (d - last - 1) _ (by omega) (by omega) hA hlc (hr.below hb0))
  have HB0 := Lib.hid hb0
  have HIs := Lib.hid hI.s
  have HLi := Lib.hid hI.li
  have HB := Lib.hid (show postBytes last (LPost.p ⟨d, S, c, ls⟩) = numBytes (numNat (d - last - 1)) ++ (numBytes ls.length ++ (ls.map LSpot.p).flatMap spotBytes) from by unfold postBytes; simp [LPost.p])
  have l1 := Lib.hid (numBytes_le (numNat (d - last - 1)))
  have l2 := Lib.hid (numBytes_le ls.length)
  have HLe := Lib.hid (fun j => spots_le ((ls.take j).map LSpot.p) (fun s hs => by obtain ⟨t, ht, rfl⟩ := List.mem_map.1 hs; exact (HPl.out t (List.mem_of_mem_take ht)).1))
  clear hp hb0 hI hF hf hr
  go_enter Try.func22, Try.ntmps22
  have hw1 : wrap64 (d - last) = d - last := by go_arith
  have hw2 : wrap64 (d - last - 1) = d - last - 1 := by go_arith
  go_wp2_with fail
  generalize w.alloc (.cells #[.int .i64 d, .slice S ls.length c] 40) = w0 at *
  obtain ⟨q, hq⟩ : ∃ q, q = w.heap.size := ⟨_, rfl⟩
  have hsw := HB0.out.size
  rw [← hq] at x0 x1 hsz ⊢
  clear hq x0
  obtain ⟨N1, hN1⟩ : ∃ N1, numBytes (numNat (d - last - 1)) = N1 := ⟨_, rfl⟩
  obtain ⟨N2, hN2⟩ : ∃ N2, numBytes ls.length = N2 := ⟨_, rfl⟩
  rw [hN1] at HN1 HB l1
  rw [hN2] at HB l2
  clear hN1
  refine HN1.out.mono ?_
  clear HN1
  rintro e wa ⟨va, rfl, hva, hba⟩
  have hla : (bs ++ N1).length ≤ 140737488350100 := by have := l1.out; rw [List.length_append]; omega
  obtain ⟨A1, c1, rfl, hc1, hn1⟩ := hva.form
  have HN2 := Lib.hid (num_any A1 c1 (bs ++ N1) (ls.length : Int) wa (by omega) (by omega) hn1 hc1 (RB.of_own hva))
  rw [numNat_nat, hN2] at HN2
  have x1a : wa.cell? ⟨q, 1, none⟩ = some (.slice S ls.length c) := by rw [hba.cell hsz]; exact x1
  have hsa : q < wa.heap.size := Nat.lt_of_lt_of_le hsz hba.size
  clear hN2 hva
  generalize (bs ++ N1).length = la at HN2 hla hc1 ⊢
  go_wp2_with (go_at_call 20; refine HN2.out.mono ?_; clear HN2; rintro e wb ⟨vb2, rfl, hvb, hbb⟩
               have x1b : wb.cell? ⟨q, 1, none⟩ = some (.slice S ls.length c) := by rw [hbb.cell hsa]; exact x1a)
  have hb0b : Below w0.heap.size w0 wb := hba.trans (hbb.mono hba.size)
  obtain ⟨B0, hB0⟩ : ∃ B0, bs ++ N1 ++ N2 = B0 := ⟨_, rfl⟩
  have hlb : B0.length ≤ 140737488350200 := by have := l1.out; have := l2.out; rw [← hB0, List.length_append, List.length_append]; omega
  have hvb0 := hvb.mono (Nat.le_trans hsw hba.size)
  rw [hB0] at hvb0
  have HB2 : Hid (bs ++ postBytes last (LPost.p ⟨d, S, c, ls⟩) = B0 ++ (ls.map LSpot.p).flatMap spotBytes) := by show _ = _; rw [HB.out, ← hB0]; simp
  clear hvb hB0 HB l1 l2 hla hc1 hn1 hba hbb x1a x1b x1 hsa hsz
  go_loopg [0, 24] ls.length (fun r s0 i wr => ∃ j : Nat, j + r = ls.length ∧ i = .int .i64 j ∧ OB wr w.heap.size s0 (B0 ++ ((ls.take j).map LSpot.p).flatMap spotBytes) ∧ Below w0.heap.size w0 wr)
  case atStart => exact ⟨0, by omega, rfl, by simpa using hvb0, hb0b⟩
  case round =>
    clear hvb0 hb0b
    obtain ⟨j, hj, rfl, hv, hb⟩ := hrel
    by_cases hjl : j < ls.length
    · obtain ⟨a, rfl, hc⟩ := flat_get sk_length (by decide) (HLi.out.below hb) j hjl
      have hk := (HIs.out _ (List.getElem_mem hjl)).below hb
      have hpl := HPl.out _ (List.getElem_mem hjl)
      have hT : B0 ++ ((ls.take (j + 1)).map LSpot.p).flatMap spotBytes = (B0 ++ ((ls.take j).map LSpot.p).flatMap spotBytes) ++ spotBytes (LSpot.p ls[j]) := by rw [take_snoc hjl, List.map_append, List.flatMap_append, List.append_assoc]; simp
      have hlj := HLe.out j
      rw [List.length_map, List.length_take] at hlj
      generalize ls[j] = s at hc hk hT hpl
      have HT : Hid (B0 ++ ((ls.take (j + 1)).map LSpot.p).flatMap spotBytes = (B0 ++ ((ls.take j).map LSpot.p).flatMap spotBytes) ++ (numBytes (numNat s.f) ++ risingBytes s.l)) := hT
      have hlen : (B0 ++ ((ls.take j).map LSpot.p).flatMap spotBytes).length ≤ 140737488353000 := by rw [List.length_append]; omega
      generalize B0 ++ ((ls.take j).map LSpot.p).flatMap spotBytes = X at hv HT hlen
      clear hT hlj
      have hsl := placesB_len hpl.1
      unfold sk at hc
      have HC := Lib.hid hc
      clear hc
      have hj1 : decide ((j : Int) < (ls.length : Int)) = true := decide_eq_true (by omega)
      obtain ⟨A2, c2, rfl, hc2, hn2⟩ := hv.form
      go_upto_region 6 with (refine wpList_load_any rfl 46 (.tmp 26) rfl _ rfl _ _ HC.out rfl rfl info_spot ?_)
      have hb5 : Below wr.heap.size wr (wr.alloc (.cells #[.int .i64 s.f, .slice s.A s.l.length s.c] 46)) := (Below.refl _ _).alloc (Nat.le_refl _) _
      have z0 : (wr.alloc (.cells #[.int .i64 s.f, .slice s.A s.l.length s.c] 46)).cell? ⟨wr.heap.size, 0, none⟩ = some (.int .i64 s.f) := by go_cell
      have z1 : (wr.alloc (.cells #[.int .i64 s.f, .slice s.A s.l.length s.c] 46)).cell? ⟨wr.heap.size, 1, none⟩ = some (.slice s.A s.l.length s.c) := by go_cell
      have hN5 : wr.heap.size < (wr.alloc (.cells #[.int .i64 s.f, .slice s.A s.l.length s.c] 46)).heap.size := by simp
      have hk5 := (hk.below hb5).below (Below.refl _ _).drew
      have hv5 := (hv.below hb5).drew
      have hb05 := hb.trans (hb5.mono hb.size)
      have hsz5 := hb5.size
      generalize (wr.alloc (.cells #[.int .i64 s.f, .slice s.A s.l.length s.c] 46)) = W5 at z0 z1 hb05 hN5 hk5 hv5 hsz5 ⊢
      have z0d : W5.drew.cell? ⟨wr.heap.size, 0, none⟩ = some (.int .i64 s.f) := z0
      have z1d : W5.drew.cell? ⟨wr.heap.size, 1, none⟩ = some (.slice s.A s.l.length s.c) := z1
      have hN5d : wr.heap.size < W5.drew.heap.size := hN5
      have hb05d := hb05.trans ((Below.refl w0.heap.size W5).drew)
      generalize wr.heap.size = N5 at z0 z1 z0d z1d hN5 hN5d ⊢
      have HK5 := Lib.hid hk5
      have HN := Lib.hid (num_any A2 c2 X s.f W5.drew (by omega) (by omega) hn2 hc2 (RB.of_own hv5))
      have hXn := Lib.hid (show ∀ n : List UInt8, n.length ≤ 9 → (X ++ n).length ≤ 140737488353009 from fun n hn => by rw [List.length_append]; omega)
      have hnb := Lib.hid (numBytes_le (numNat s.f))
      clear hb5 hk hk5 HC hb hv hv5
      generalize numBytes (numNat s.f) = Nf at HN HT hnb
      go_region_law (first
        | (go_simp; go_at_call 20; refine HN.out.mono ?_; rintro e w6 ⟨v6, rfl, hv6, hb6⟩
           have z06 : w6.cell? ⟨N5, 0, none⟩ = some (.int .i64 s.f) := by rw [hb6.cell hN5d]; exact z0d
           have z16 : w6.cell? ⟨N5, 1, none⟩ = some (.slice s.A s.l.length s.c) := by rw [hb6.cell hN5d]; exact z1d
           obtain ⟨A3, c3, rfl, hc3, hn3⟩ := hv6.form
           have hX6 := hXn.out Nf hnb.out
           have HR := Lib.hid (rising_any A3 s.A c3 s.c (X ++ Nf) s.l w6 (by omega) hn3 hc3 HK5.out.c (fun z hz => HK5.out.z z hz) (RB.of_own hv6) (HK5.out.below hb6).li)
           generalize (X ++ Nf).length = m6 at *)
        | (go_simp; go_at_call 43; refine HR.out.mono ?_; rintro e w7 ⟨v7, rfl, hv7, hb7⟩))
      all_goals simp only [Act.put, List.getElem_toArray, List.getElem_cons_succ, List.getElem_cons_zero, List.setIfInBounds_toArray, List.set_cons_zero, List.set_cons_succ]
      all_goals go_wp2_with fail
      all_goals
        go_roundg (ls.length - (j + 1))
        case measure => omega
        case rel => exact ⟨j + 1, by omega, by go_num, by rw [HT.out, ← List.append_assoc]; exact hv7.mono (Nat.le_trans (Nat.le_trans hsw hb05d.size) hb6.size), (hb05d.trans (hb6.mono hb05d.size)).trans (hb7.mono (Nat.le_trans hb05d.size hb6.size))⟩
    · obtain rfl : j = ls.length := by omega
      rw [List.take_length, ← HB2.out] at hv
      go_wp2_with fail
      go_returns
      exact ⟨_, rfl, hv, HB0.out.trans (hb.mono hsw)⟩
end Go.Proofs.Ytbeejmedekgjjaa
