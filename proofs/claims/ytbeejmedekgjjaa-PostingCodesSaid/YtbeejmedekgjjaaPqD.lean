/- Postings decoded by the document: the walk of Decode. -/
import Derived.Test.YtbeejmedekgjjaaPpD
import Derived.Test.YtbeejmedekgjjaaPqB
namespace Go.Proofs.Ytbeejmedekgjjaa
open Go.RowKit
set_option linter.unusedVariables false
set_option linter.unusedSimpArgs false
theorem RfS.noBytes {w : World} {g : Nat} {o : Option (List UInt8)} (h : RfS w g o) : NoBytes w g := by
  cases o with
  | none => obtain ⟨e, h⟩ := h; exact ⟨_, _, _, h.cells, by simp⟩
  | some bs => obtain ⟨A, c, h⟩ := h; exact ⟨_, _, _, h.cells, by simp⟩
theorem lastD_app (l m : List Post) (d : Int) : lastD d (l ++ m) = lastD (lastD d l) m := by
  induction l generalizing d with
  | nil => rfl
  | cons p l ih => rw [List.cons_append, lastD_cons, lastD_cons, ih]
theorem Kept.other {p : LPost} {w : World} {base r r' : Nat} {V : Option Nat} (h : Kept p w base V r) (hr : r' < base) : Kept p w base V r' :=
  ⟨h.i, fun a ha => by have := h.a a ha; exact ⟨this.1, this.2.1, this.2.2.1, by omega⟩, fun s hs a ha => by have := h.s s hs a ha; exact ⟨this.1, this.2.1, this.2.2.1, by omega⟩⟩
theorem refPost_spots (last : Int) (o : Option (List UInt8)) : (refPost last o).1.spots.length ≤ 4 := by
  have h : ∀ n o, (refSpots n o).1.length = n := by
    intro n
    induction n with
    | zero => intro o; rfl
    | succ n ih => intro o; rw [refSpots_succ]; simp [ih]
  show (refSpots (numS 4 (numS 65536 o).2).1 (numS 4 (numS 65536 o).2).2).1.length ≤ 4
  rw [h]
  have := numS_le 4 (numS 65536 o).2
  omega
theorem refPost_doc (last : Int) (o : Option (List UInt8)) : last < (refPost last o).1.doc ∧ (refPost last o).1.doc ≤ last + 65537 := by
  have := numS_le 65536 o
  show last < last + 1 + ((numS 65536 o).1 : Int) ∧ last + 1 + ((numS 65536 o).1 : Int) ≤ last + 65537
  omega
theorem refPost_len {last : Int} {o : Option (List UInt8)} (h : OLen o) : OLen (refPost last o).2 := by
  have hs : ∀ n o, OLen o → OLen (refSpots n o).2 := by
    intro n
    induction n with
    | zero => intro o h; exact h
    | succ n ih => intro o h; rw [refSpots_succ]; exact ih _ (risingS_len (numS_len h))
  exact hs _ _ (numS_len (numS_len h))
set_option maxRecDepth 100000 in
set_option maxHeartbeats 6400000 in
theorem rdecode_any (A : Option Addr) (c : Nat) (bs : List UInt8) (w : World) (hm : bs.length ≤ 140737488355300) (hA : A = none → c = 0) (hr : RB w A bs) :
    Calls Try.prog 11 #[.slice A bs.length c] w fun e w' => Below w.heap.size w w' ∧ (refDec bs = none → e = .returned (.tuple #[.slice none 0 0, .int .i64 3])) ∧
      (∀ l, refDec bs = some l → ∃ A' c' ls, e = .returned (.tuple #[.slice A' ls.length c', .int .i64 0]) ∧ Posts w' A' c' ls ∧ ls.map LPost.p = l) := by
  have HML : Hid (maxLen = 9223372036854775807) := rfl
  have hal := (Below.refl w.heap.size w).alloc (Nat.le_refl _) (.cells #[] 5)
  have hrA := hr.below hal
  have hx := numS_le 65536 (some bs)
  have hol := numS_len (most := 65536) (o := some bs) (fun b hb => by cases hb; exact hm)
  have HN := Lib.hid (fun g w' h' => fsnum g 65536 (some bs) w' h' (fun b hb => by cases hb; exact hm))
  have HD := Lib.hid (show refDec bs = (refCh (((numS 65536 (some bs)).1 + 3) / 4) (numS 65536 (some bs)).1 (-1) (numS 65536 (some bs)).2).bind fun x => if (overS x.2 && chkB x.1) = true then some x.1 else none from rfl)
  generalize numS 65536 (some bs) = N at hx hol HN HD
  obtain ⟨n, o0⟩ := N
  simp only at hx hol HN HD
  obtain ⟨T, hT⟩ : ∃ T, refCh ((n + 3) / 4) n (-1) o0 = T := ⟨_, rfl⟩
  rw [hT] at HD
  have HT := Lib.hid hT
  have hn6 : n ≤ 65536 := by omega
  clear hr hT hx
  go_enter Try.func11, Try.ntmps11
  go_wp2_with (at_builtin; refine wpList_app _ rfl _ _ 23 rfl w.heap.size 5 _ 1 1 Try.underlying23 info_u8 rfl (by decide) _ 0 _ rfl (World.ownsRow_lit w _ 0 (Nat.le_refl _) (by decide) rfl) A bs.length c (bs.map vb) rfl (by simp) hrA (vbs_one bs) hA ?c6 ?c7 ?c8 ?_)
  case c6 => rw [HML.out]; omega
  case c7 => omega
  case c8 => simp
  intro v3 w3 hown3 hg3 _
  have hob3 : OB w3 w.heap.size v3 bs := by simpa [OB] using hown3
  have hb3 : Below w.heap.size w w3 := hal.grown hg3 (by simp) (by intro k hk; cases hk; exact Nat.le_refl _)
  obtain ⟨A3, c3, rfl, hc3, hA3⟩ := OB.form hob3
  have hf4 : RfAt (w3.alloc (.cells #[.slice A3 bs.length c3, .int .i64 0] 56)) w3.heap.size A3 c3 bs :=
    ⟨heap_alloc_new w3 _, (RB.of_own hob3).below ((Below.refl _ _).alloc (Nat.le_refl _) _), hA3, hc3, fun a ha => by subst ha; exact (World.ownsRow.lt (show World.ownsRow _ _ _ _ _ _ _ from hob3) a.block rfl).2⟩
  have hb4 := hb3.alloc hb3.size (.cells #[.slice A3 bs.length c3, .int .i64 0] 56)
  have hN4 := HN.out w3.heap.size _ (⟨A3, c3, hf4⟩ : RfS _ _ (some bs))
  have HN4 := Lib.hid hN4
  have hgw : w.heap.size ≤ w3.heap.size := hb3.size
  clear hf4 hN4 HN hown3 hg3 hob3 hb3 hal hrA
  go_wp2_with fail
  have HSA := Lib.hid (show (w3.alloc (.cells #[.slice A3 bs.length c3, .int .i64 0] 56)).heap.size = w3.heap.size + 1 by simp)
  generalize w3.alloc (.cells #[.slice A3 bs.length c3, .int .i64 0] 56) = w4 at *
  obtain ⟨g, hg⟩ : ∃ g, w3.heap.size = g := ⟨_, rfl⟩
  rw [hg] at hgw HN4 HSA ⊢
  clear hg
  refine HN4.out.mono ?_
  rintro e5 w5 ⟨rfl, hr5, hg5⟩
  have hb5 : Below w.heap.size w w5 := hb4.grown hg5 hb4.size (by intro k hk; injection hk with hk; omega)
  have hsz5 : g + 1 ≤ w5.heap.size := by have := hg5.size; have := HSA.out; omega
  clear HN4 hb4 hg5 HSA
  go_wp2_with fail
  go_loopg [6, 7, 21] n (fun rr s6 s7 s21 wr => ∃ (i : Nat) (ls : List LPost) (last : Int) (o : Option (List UInt8)), i + rr = n ∧ s21 = .int .i64 i ∧ s7 = .int .i64 last ∧ ls.length = min n (4 * ((i + 3) / 4)) ∧ last = lastD (-1) (ls.map LPost.p) ∧ -1 ≤ last ∧ last ≤ 65537 * (ls.length : Int) ∧
      wr.ownsRow w5.heap.size 40 2 s6 ls.length (ls.flatMap pk) ∧ (∀ p ∈ ls, Kept p wr w5.heap.size s6.ownBlock g ∧ p.spots.length ≤ 4) ∧ (∀ k, s6.ownBlock = some k → NoBytes wr k) ∧ RfS wr g o ∧ OLen o ∧
      T = (refCh ((n - ls.length + 3) / 4) (n - ls.length) last o).map (fun x => (ls.map LPost.p ++ x.1, x.2)) ∧ Below w.heap.size w wr ∧ w5.heap.size ≤ wr.heap.size)
  case atStart => exact ⟨0, [], -1, o0, by omega, rfl, rfl, by simp, rfl, by omega, by simp, World.ownsRow_nil _ _ _ _, by simp, by intro k hk; simp [Value.ownBlock] at hk, hr5, hol, by rw [← HT.out]; simp, hb5, Nat.le_refl _⟩
  case round =>
    obtain ⟨i, ls, last, o, hi, rfl, rfl, hll, hla, hla0, hla1, hown, hkp, hnb, hro, hlo, hTT, hb, hsz⟩ := hrel
    obtain ⟨Av, cv, rfl, hcv⟩ := own_form hown
    by_cases hin : i < n
    · have hj1 : decide ((i : Int) < (n : Int)) = true := decide_eq_true (by omega)
      by_cases hi4 : i % 4 = 0
      · have hil : ls.length = i := by rw [hll]; omega
        obtain ⟨m, hm⟩ : ∃ m, n - i = m + 1 := ⟨n - i - 1, by omega⟩
        obtain ⟨k, hk⟩ : ∃ k, (m + 1 + 3) / 4 = k + 1 := ⟨(m + 1 + 3) / 4 - 1, by omega⟩
        rw [hil, hm, hk, refCh] at hTT
        have HF := Lib.hid (fsnum g 65536 o wr hro hlo)
        have hxx := numS_le 65536 o
        have hol1 := numS_len (most := 65536) hlo
        generalize numS 65536 o = N1 at HF hxx hol1 hTT
        obtain ⟨x, o1⟩ := N1
        simp only at HF hxx hol1 hTT
        have HTx := Lib.hid (fun w' h' => fstext g o1 w' h' hol1)
        have htx := textS_small o1
        have hol2 := textS_len (most := 65536) hol1
        generalize textS 65536 o1 = N2 at HTx htx hol2 hTT
        obtain ⟨tx, o2⟩ := N2
        simp only at HTx htx hol2 hTT
        obtain ⟨tp, htp⟩ : ∃ tp, last + 1 + (x : Int) = tp := ⟨_, rfl⟩
        rw [htp] at hTT
        obtain ⟨R, hR⟩ : ∃ R, refRun tp (min 4 (m + 1)) last (some tx) = R := ⟨_, rfl⟩
        rw [hR] at hTT
        have HTT := Lib.hid hTT
        have HR := Lib.hid hR
        have HLA := Lib.hid hla
        have hlab : ls.length ≤ 65536 := by omega
        have hw1 : IntKind.i64.wrap (last + 1) = last + 1 := by go_arith
        have hw2 : IntKind.i64.wrap (last + 1 + (x : Int)) = tp := by rw [← htp]; go_arith
        have hw3 : IntKind.i64.wrap ((n : Int) - (i : Int)) = ((m + 1 : Nat) : Int) := by rw [← hm]; go_arith
        have HTp := Lib.hid htp
        have HIl := Lib.hid hil
        have HM := Lib.hid hm
        have hq : ((i : Int) % 4 != 0) = false := by rw [bne_eq_false_iff_eq]; omega
        have hq2 : (i : Int) % 4 = 0 := by omega
        have HKk := Lib.hid hk
        have HI4 := Lib.hid hi4
        clear hTT hR hla hll hil htp hm hk hi4
        go_upto_region 10 with (go_at_call 27; refine HF.out.mono ?_; rintro e6 w6 ⟨rfl, hr6, hg6⟩)
        have hb6 : Below w.heap.size w w6 := hb.grown hg6 hb.size (by intro k' hk'; injection hk' with hk'; omega)
        have hO6 : Only wr w6 [g] := Only.of_grown hg6
        have HT6 := Lib.hid (HTx.out w6 hr6)
        have kc := fun (w : World) => Lib.run_convert_string_bytes (P := Try.prog) w 9 23 5 (str tx) Try.underlying9 Try.underlying23 Try.underlying5
        have hszT : (str tx).size = tx.length := str_size tx
        have hbyT : (str tx).data.toList = tx := str_toList tx
        have HSz := Lib.hid hszT
        have HBy := Lib.hid hbyT
        clear hszT hbyT HTx HF hr6 hg6 hw1 hw2
        go_upto_region 11 with (go_at_call 28; refine HT6.out.mono ?_; rintro e7 w7 ⟨rfl, hr7, hg7⟩)
        have hbY := Joins.below_bytesWorld w7.heap.size w7 5 (str tx) (Nat.le_refl _)
        have hRB := rb_bytes w7 (str tx)
        rw [HBy.out] at hRB
        have hr8 := hr7.below hbY
        have hO8 : Only wr (Lib.bytesWorld w7 5 (str tx)) [g] := (hO6.trans (Only.of_grown hg7)).trans (Only.of_below hbY _)
        have hb7 : Below w.heap.size w w7 := hb6.grown hg7 hb6.size (by intro k' hk'; injection hk' with hk'; omega)
        have hb8 : Below w.heap.size w (Lib.bytesWorld w7 5 (str tx)) := hb7.trans (hbY.mono hb7.size)
        have hcap := grownCap_ge w7 (str tx).size 0 5
        rw [HSz.out] at hcap
        rw [HSz.out]
        generalize grownCap w7 tx.length 0 5 = cap at hcap ⊢
        have hlt7 := hbY.size
        have hg7w := hr7.lt
        obtain ⟨W8, hW8⟩ : ∃ W8, Lib.bytesWorld w7 5 (str tx) = W8 := ⟨_, rfl⟩
        rw [hW8] at hRB hr8 hO8 hb8 hlt7 ⊢
        have hsz8 : w7.heap.size < W8.heap.size := by rw [← hW8]; simp [Lib.bytesWorld, World.freeze]
        have hf9 : RfAt (W8.alloc (.cells #[.slice (some ⟨w7.heap.size, 0, none⟩) tx.length cap, .int .i64 0] 56)) W8.heap.size (some ⟨w7.heap.size, 0, none⟩) cap tx :=
          ⟨heap_alloc_new W8 _, hRB.below ((Below.refl _ _).alloc (Nat.le_refl _) _), by simp, hcap, fun a ha => by cases ha; exact hsz8⟩
        have hb89 : Below W8.heap.size W8 (W8.alloc (.cells #[.slice (some ⟨w7.heap.size, 0, none⟩) tx.length cap, .int .i64 0] 56)) := (Below.refl _ _).alloc (Nat.le_refl _) _
        have hr9 := hr8.below hb89
        have hO9 := hO8.trans (Only.of_below hb89 _)
        have hb9 := hb8.trans (hb89.mono hb8.size)
        have HS9 := Lib.hid (show (W8.alloc (.cells #[.slice (some ⟨w7.heap.size, 0, none⟩) tx.length cap, .int .i64 0] 56)).heap.size = W8.heap.size + 1 by simp)
        generalize W8.alloc (.cells #[.slice (some ⟨w7.heap.size, 0, none⟩) tx.length cap, .int .i64 0] 56) = W9 at *
        obtain ⟨gr, hgr⟩ : ∃ gr, W8.heap.size = gr := ⟨_, rfl⟩
        have hwr8 := hO8.size
        rw [hgr] at hf9 HS9 hwr8 ⊢
        have hR9 : RfS W9 gr (some tx) := ⟨_, _, hf9⟩
        have hown9 := own_only hown hO9 (by intro k' hk'; have := World.ownsRow.lt hown k' hk'; simp; omega)
        have hnb9 : ∀ k', (Value.slice Av ls.length cv).ownBlock = some k' → NoBytes W9 k' ∧ k' ≠ gr := fun k' hk' => by
          have h1 := World.ownsRow.lt hown k' hk'
          exact ⟨(hnb k' hk').block (hO9.block k' h1.2 (by simp; omega)), by omega⟩
        have hkp9 : ∀ p ∈ ls, Kept p W9 w5.heap.size (Value.slice Av ls.length cv).ownBlock gr ∧ p.spots.length ≤ 4 := fun p hp => ⟨(hkp p hp).1.only hO9 (by intro i hi; simp at hi; omega) (.inr hwr8), (hkp p hp).2⟩
        clear hf9 hb89 hr8 hb8 hRB hW8 hgr hO8 hsz8 hr7 hg7 hbY hb7 hb6 hO6 hcap hown hnb hkp hb hro kc HT6 hlt7 hg7w
        obtain ⟨K, hK⟩ : ∃ K, min 4 (m + 1) = K := ⟨_, rfl⟩
        rw [hK] at HR
        have hK0 : 0 < K ∧ K ≤ 4 ∧ K ≤ m + 1 := by omega
        have qm : min (4 : Int) ((m : Int) + 1) = (K : Int) := by rw [← hK]; omega
        have hwK : IntKind.i64.wrap ((K : Int) - 1) = (K : Int) - 1 := by go_arith
        have HK := Lib.hid hK
        have hwg : w.heap.size ≤ gr := by have := hb9.size; have := HS9.out; omega
        have hg9 := hr9.lt
        have hgr9 := hR9.lt
        have hgb : g < w5.heap.size := by omega
        have hgrb : w5.heap.size ≤ gr := by omega
        clear hK
        go_wp2_with fail
        go_loopg [6, 7, 41] K (fun r2 s6 s7 s41 wr => ∃ (k : Nat) (cs L : List LPost) (la : Int) (q : Option (List UInt8)), k + r2 = K ∧ s41 = .int .i64 k ∧ s7 = .int .i64 la ∧ cs.length = k ∧ L = ls ++ cs ∧ la = lastD last (cs.map LPost.p) ∧ -1 ≤ la ∧ la ≤ 65537 * ((ls.length + k : Nat) : Int) ∧
          wr.ownsRow w5.heap.size 40 2 s6 L.length (L.flatMap pk) ∧ (∀ p ∈ L, Kept p wr w5.heap.size s6.ownBlock gr ∧ p.spots.length ≤ 4) ∧ (∀ k', s6.ownBlock = some k' → NoBytes wr k' ∧ k' ≠ gr) ∧ RfS wr g o2 ∧ RfS wr gr q ∧ OLen q ∧
          R = (refRun tp (K - k) la q).map (fun x => (cs.map LPost.p ++ x.1, x.2)) ∧ Below w.heap.size w wr ∧ W9.heap.size ≤ wr.heap.size)
        case atStart => exact ⟨0, [], ls, last, some tx, by omega, rfl, rfl, rfl, by simp, rfl, hla0, by simpa using hla1, hown9, hkp9, hnb9, hr9, hR9, fun b hb => by cases hb; omega, by rw [← HR.out]; simp, hb9, Nat.le_refl _⟩
        case round =>
          obtain ⟨k2, cs, L, la, q, hk2, rfl, rfl, hcl, hL, hlac, hlb0, hlb1, hown, hkp, hnb, hro, hrq, hlq, hRR, hb, hszr⟩ := hrel
          obtain ⟨Au, cu, rfl, hcu⟩ := own_form hown
          have HL := Lib.hid hL
          have HCl := Lib.hid hcl
          have HLac := Lib.hid hlac
          have hLl : L.length = ls.length + k2 := by rw [hL, List.length_append, hcl]
          by_cases hkK : k2 < K
          · have hj2 : decide ((k2 : Int) < (K : Int)) = true := decide_eq_true (by omega)
            obtain ⟨r3, hr3⟩ : ∃ r3, K - k2 = r3 + 1 := ⟨K - k2 - 1, by omega⟩
            rw [hr3, refRun] at hRR
            have HO := Lib.hid (rone_any gr q la wr hrq hlq hlb0 (by omega))
            have hpd := refPost_doc la q
            have hps := refPost_spots la q
            have hpl := refPost_len (last := la) hlq
            generalize refPost la q = PP at HO hpd hps hpl hRR
            obtain ⟨pp0, q2⟩ := PP
            simp only at HO hpd hps hpl hRR
            have HRR := Lib.hid hRR
            have HLl := Lib.hid hLl
            have HR3 := Lib.hid hr3
            clear hRR hL hcl hlac hLl hr3
            go_upto_region 15 with (go_at_call 29; refine HO.out.mono ?_; rintro e2 w2 ⟨pp, rfl, hpi, hpf, hpp, hq2, hg2⟩)
            have hs2 := hg2.size
            have hO2 : Only wr w2 [gr] := Only.of_grown hg2
            have hgrw := hrq.lt
            have hgw2 := hro.lt
            have hown2 := own_only hown hO2 (by intro k' hk'; have := (hnb k' hk').2; simp; omega)
            have hnb2 : ∀ k', (Value.slice Au L.length cu).ownBlock = some k' → NoBytes w2 k' ∧ k' ≠ gr := fun k' hk' => by
              have h1 := hnb k' hk'
              exact ⟨h1.1.block (hO2.block k' (World.ownsRow.lt hown k' hk').2 (by simp; exact h1.2)), h1.2⟩
            have hk2' : ∀ p ∈ L, Kept p w2 w5.heap.size (Value.slice Au L.length cu).ownBlock gr ∧ p.spots.length ≤ 4 := fun p hp => ⟨(hkp p hp).1.only hO2 (by intro i' hi'; simp at hi'; exact .inr hi') (.inl rfl), (hkp p hp).2⟩
            have hd1 : pp.d = pp0.doc := by rw [← hpp]; rfl
            have hsp4 : pp.spots.length ≤ 4 := by have : pp.p.spots.length = pp.spots.length := List.length_map _; rw [← this, hpp]; exact hps
            have hkn : Kept pp w2 w5.heap.size (Value.slice Au L.length cu).ownBlock gr := ⟨hpi, fun a ha => by
                have h1 := hpf.1 a ha
                refine ⟨by omega, h1.2, fun e => ?_, by omega⟩
                have := (World.ownsRow.lt hown _ e).2
                omega, fun s' hs' a ha => by
                have h1 := hpf.2 s' hs' a ha
                refine ⟨by omega, h1.2, fun e => ?_, by omega⟩
                have := (World.ownsRow.lt hown _ e).2
                omega⟩
            have hb2 : Below w.heap.size w w2 := hb.grown hg2 hb.size (by intro k' hk'; injection hk' with hk'; omega)
            have hro2 : RfS w2 g o2 := hro.only (S := [gr]) (by intro k' hk'; simp at hk'; subst hk'; exact RfS.noBytes hrq) (by simp; omega) hO2
            rw [← hd1] at hpd
            clear hown hnb hkp hb hro hrq hpf hO2 hpi hg2 HO
            have hal := (Below.refl w2.heap.size w2).alloc (Nat.le_refl _) (.cells #[.int .i64 pp.d, .slice pp.S pp.spots.length pp.c] 40)
            have hX := heap_alloc_new w2 (.cells #[.int .i64 pp.d, .slice pp.S pp.spots.length pp.c] 40)
            have hown3 := World.ownsRow.alloc hown2 (.cells #[.int .i64 pp.d, .slice pp.S pp.spots.length pp.c] 40)
            have hnb3 : ∀ k', (Value.slice Au L.length cu).ownBlock = some k' → NoBytes (w2.alloc (.cells #[.int .i64 pp.d, .slice pp.S pp.spots.length pp.c] 40)) k' ∧ k' ≠ gr := fun k' hk' => ⟨(hnb2 k' hk').1.block (heap_alloc_old w2 _ (World.ownsRow.lt hown2 k' hk').2), (hnb2 k' hk').2⟩
            have hk3 : ∀ p, p ∈ L ∨ p = pp → Kept p (w2.alloc (.cells #[.int .i64 pp.d, .slice pp.S pp.spots.length pp.c] 40)) w5.heap.size (Value.slice Au L.length cu).ownBlock gr ∧ p.spots.length ≤ 4 := by
              intro p hp
              rcases hp with hp | rfl
              · exact ⟨(hk2' p hp).1.only (Only.of_below hal []) (by simp) (.inl rfl), (hk2' p hp).2⟩
              · exact ⟨hkn.only (Only.of_below hal []) (by simp) (.inl rfl), hsp4⟩
            have hb3 := hb2.alloc hb2.size (.cells #[.int .i64 pp.d, .slice pp.S pp.spots.length pp.c] 40)
            have hro3 := hro2.below hal
            have hq3 := hq2.below hal
            have hsA : (w2.alloc (.cells #[.int .i64 pp.d, .slice pp.S pp.spots.length pp.c] 40)).heap.size = w2.heap.size + 1 := by simp
            clear hown2 hnb2 hk2' hkn hb2 hal hro2 hq2
            generalize w2.alloc (.cells #[.int .i64 pp.d, .slice pp.S pp.spots.length pp.c] 40) = wX at *
            have qX0 : wX.cell? ⟨w2.heap.size, 0, none⟩ = some (.int .i64 pp.d) := blk_cell hX
            have qX1 : wX.cell? ⟨w2.heap.size, 1, none⟩ = some (.slice pp.S pp.spots.length pp.c) := blk_cell hX
            have hB := heap_alloc_new wX (.cells #[.int .i64 pp.d, .slice pp.S pp.spots.length pp.c] 40)
            have qB0 : (wX.alloc (.cells #[.int .i64 pp.d, .slice pp.S pp.spots.length pp.c] 40)).cell? ⟨wX.heap.size, 0, none⟩ = some (.int .i64 pp.d) := blk_cell hB
            have qB1 : (wX.alloc (.cells #[.int .i64 pp.d, .slice pp.S pp.spots.length pp.c] 40)).cell? ⟨wX.heap.size, 1, none⟩ = some (.slice pp.S pp.spots.length pp.c) := blk_cell hB
            have hownB := World.ownsRow.alloc hown3 (.cells #[.int .i64 pp.d, .slice pp.S pp.spots.length pp.c] 40)
            have hnbB : ∀ k', (Value.slice Au L.length cu).ownBlock = some k' → NoBytes (wX.alloc (.cells #[.int .i64 pp.d, .slice pp.S pp.spots.length pp.c] 40)) k' := fun k' hk' => (hnb3 k' hk').1.block (heap_alloc_old wX _ (World.ownsRow.lt hown3 k' hk').2)
            have halB := (Below.refl wX.heap.size wX).alloc (Nat.le_refl _) (.cells #[.int .i64 pp.d, .slice pp.S pp.spots.length pp.c] 40)
            have hbX : w5.heap.size ≤ (wX.alloc (.cells #[.int .i64 pp.d, .slice pp.S pp.spots.length pp.c] 40)).heap.size := by simp; omega
            have hBs : (wX.alloc (.cells #[.int .i64 pp.d, .slice pp.S pp.spots.length pp.c] 40)).heap.size = wX.heap.size + 1 := by simp
            have hn1 : ∀ k', (Value.slice Au L.length cu).ownBlock = some k' → k' < wX.heap.size ∧ w5.heap.size ≤ k' := fun k' hk' => ⟨(World.ownsRow.lt hown3 k' hk').2, (World.ownsRow.lt hown3 k' hk').1⟩
            have HKp := Lib.hid (fun p hp => (⟨(hk3 p hp).1.only (Only.of_below halB []) (by simp) (.inl rfl), (hk3 p hp).2⟩ : Kept p (wX.alloc (.cells #[.int .i64 pp.d, .slice pp.S pp.spots.length pp.c] 40)) w5.heap.size (Value.slice Au L.length cu).ownBlock gr ∧ p.spots.length ≤ 4))
            have HBw := Lib.hid (hb3.alloc hb3.size (.cells #[.int .i64 pp.d, .slice pp.S pp.spots.length pp.c] 40))
            have HRo := Lib.hid (hro3.below halB)
            have HQ2 := Lib.hid (hq3.below halB)
            have HLL : Hid (maxLen = 9223372036854775807) := rfl
            have HnB := Lib.hid (fun k' hk' => (⟨hnbB k' hk', (hnb3 k' hk').2⟩ : NoBytes (wX.alloc (.cells #[.int .i64 pp.d, .slice pp.S pp.spots.length pp.c] 40)) k' ∧ k' ≠ gr))
            have hl6' : L.length + 1 ≤ 65540 := by have := HLl.out; omega
            have HsA := Lib.hid hsA
            have HBs := Lib.hid hBs
            have HD1 := Lib.hid hd1
            clear hsA hBs hB halB hk3 hb3 hown3 hnb3 hX hro3 hq3 hd1
            go_upto_region 17 with (at_builtin; go_loud (refine wpList_two rfl _ _ 22 rfl w5.heap.size 40 _ 32 Try.underlying22 info_posts rfl (Value.slice Au L.length cu) L.length (L.flatMap pk) rfl hownB hnbB ⟨wX.heap.size, 0, none⟩ (.int .i64 pp.d) (.slice pp.S pp.spots.length pp.c) rfl qB0 qB1 rfl rfl (clean_pair _ _ _ _) (clean_pair 0 none 0 0) (clean_pk L) (by rw [HLL.out]; omega) (by omega) hbX ?_; intro g4 cap4 w4 hown4 hg4 hat4 hlt4 hnb4))
            clear qX0 qX1 qB0 qB1 hownB hnbB
            have hs4 := hg4.size
            have hBs := HBs.out
            have hsA := HsA.out
            rw [hBs] at hs4 hat4
            have hat5 : (Value.slice Au L.length cu).ownBlock = some g4 ∨ (wX.alloc (.cells #[.int .i64 pp.d, .slice pp.S pp.spots.length pp.c] 40)).heap.size ≤ g4 := by rcases hat4 with h | h; exact .inl h; exact .inr (by omega)
            have hr3g : g4 ≠ gr := by
              rcases hat4 with h | h
              · exact (HnB.out _ h).2
              · omega
            have hgt : w5.heap.size ≤ g4 := by
              rcases hat4 with h | h
              · exact (hn1 _ h).2
              · omega
            have hmem : ∀ k', (Value.slice Au L.length cu).ownBlock = some k' → NoBytes (wX.alloc (.cells #[.int .i64 pp.d, .slice pp.S pp.spots.length pp.c] 40)) k' ∧ gr ≠ k' ∧ g ≠ k' := fun k' hk' => ⟨(HnB.out k' hk').1, Ne.symm (HnB.out k' hk').2, by have := (hn1 k' hk').2; omega⟩
            have hro4 : RfS w4 g o2 := HRo.out.apartOpt' (fun k' hk' => ⟨(hmem k' hk').1, (hmem k' hk').2.2⟩) hg4
            have hq4 : RfS w4 gr q2 := HQ2.out.apartOpt' (fun k' hk' => ⟨(hmem k' hk').1, (hmem k' hk').2.1⟩) hg4
            have hb4 : Below w.heap.size w w4 := HBw.out.grown hg4 HBw.out.size (fun k' hk' => by have := (hn1 k' hk').2; omega)
            have hk4 : ∀ p ∈ L ++ [pp], Kept p w4 w5.heap.size (some g4) gr ∧ p.spots.length ≤ 4 := by
              intro p hp
              have hp2 : p ∈ L ∨ p = pp := by simpa using hp
              exact ⟨(HKp.out p hp2).1.grown hg4 hat5, (HKp.out p hp2).2⟩
            obtain ⟨_, _, ec, _, hec, hec0, hec1⟩ := hq4.cell
            have HF : Hid (R = none → refDec bs = none) := by
              intro e
              rw [HD.out]
              have : T = none := by rw [HTT.out, e]; rfl
              rw [this]; rfl
            clear hBs hsA
            cases hos : q2.isSome with
            | false =>
              have hcp := hec1 hos
              have hcq : ((ec : Int) == 0) = false := beq_eq_false_iff_ne.mpr (by omega)
              have hcq2 : ((ec : Int) != 0) = true := by rw [bne, hcq]; rfl
              have hRn := HF.out (by rw [HRR.out, hos]; rfl)
              have HRn := Lib.hid hRn
              clear hos hec0 hec1 hRn
              go_wp2_with fail
              go_returns
              exact ⟨hb4, fun _ => rfl, fun l hl => by rw [HRn.out] at hl; cases hl⟩
            | true =>
              obtain rfl := hec0 hos
              have hOK : (decide (r3 = 0) && (pp0.doc != tp)) = false → R = (refRun tp (K - (k2 + 1)) pp.d q2).map (fun x => ((cs ++ [pp]).map LPost.p ++ x.1, x.2)) := by
                intro e
                rw [HRR.out, hos, e, HD1.out, show K - (k2 + 1) = r3 by have := HR3.out; omega]
                simp only [Bool.not_false, Bool.and_self, if_true, Option.map_map]
                congr 1
                funext x
                simp [hpp]
              have hNO : (decide (r3 = 0) && (pp0.doc != tp)) = true → R = none := by
                intro e
                rw [HRR.out, hos, e]
                rfl
              rw [← HD1.out] at hOK hNO
              have HOK := Lib.hid hOK
              have HNO := Lib.hid hNO
              have hend : k2 + 1 ≤ K := by omega
              have HLr : Hid (lastD last ((cs ++ [pp]).map LPost.p) = pp.d) := by show _ = _; rw [List.map_append]; exact lastD_snoc _ _ _
              clear hos hec1 hec0 hOK hNO
              by_cases hz : r3 = 0
              · have q3 : ((k2 : Int) == (K : Int) - 1) = true := beq_iff_eq.mpr (by have := HR3.out; omega)
                by_cases hdt : pp.d = tp
                · have q4 : (pp.d == tp) = true := beq_iff_eq.mpr hdt
                  have q4' : (pp.d != tp) = false := by rw [bne, q4]; rfl
                  have hR' := HOK.out (by rw [q4', Bool.and_false])
                  have HR' := Lib.hid hR'
                  clear hR' hz hdt
                  go_wp2_with fail
                  go_roundg (K - (k2 + 1))
                  case measure => omega
                  case rel => exact ⟨k2 + 1, cs ++ [pp], L ++ [pp], pp.d, q2, by omega, by go_num, rfl, by rw [List.length_append, HCl.out]; rfl, by rw [HL.out, List.append_assoc], HLr.out.symm, by omega, by omega, (by
                      have e1 : (L ++ [pp]).length = L.length + 1 := by simp
                      have e2 : (L ++ [pp]).flatMap pk = L.flatMap pk ++ [.int .i64 pp.d, .slice pp.S pp.spots.length pp.c] := by simp [List.flatMap_append, pk]
                      rw [e1, e2]
                      exact hown4), hk4, (by intro k' hk'; cases hk'; exact ⟨hnb4, hr3g⟩), hro4, hq4, hpl, HR'.out, hb4, by have := HsA.out; have := HBs.out; omega⟩
                · have q4 : (pp.d == tp) = false := beq_eq_false_iff_ne.mpr hdt
                  have q4' : (pp.d != tp) = true := by rw [bne, q4]; rfl
                  have hRn := HF.out (HNO.out (by rw [q4', decide_eq_true hz]; rfl))
                  have HRn := Lib.hid hRn
                  clear hRn hz
                  go_wp2_with fail
                  go_returns
                  exact ⟨hb4, fun _ => rfl, fun l hl => by rw [HRn.out] at hl; cases hl⟩
              · have q3 : ((k2 : Int) == (K : Int) - 1) = false := beq_eq_false_iff_ne.mpr (by have := HR3.out; omega)
                have hR' := HOK.out (by rw [decide_eq_false hz]; rfl)
                have HR' := Lib.hid hR'
                clear hR' hz
                go_wp2_with fail
                go_roundg (K - (k2 + 1))
                case measure => omega
                case rel => exact ⟨k2 + 1, cs ++ [pp], L ++ [pp], pp.d, q2, by omega, by go_num, rfl, by rw [List.length_append, HCl.out]; rfl, by rw [HL.out, List.append_assoc], HLr.out.symm, by omega, by omega, (by
                    have e1 : (L ++ [pp]).length = L.length + 1 := by simp
                    have e2 : (L ++ [pp]).flatMap pk = L.flatMap pk ++ [.int .i64 pp.d, .slice pp.S pp.spots.length pp.c] := by simp [List.flatMap_append, pk]
                    rw [e1, e2]
                    exact hown4), hk4, (by intro k' hk'; cases hk'; exact ⟨hnb4, hr3g⟩), hro4, hq4, hpl, HR'.out, hb4, by have := HsA.out; have := HBs.out; omega⟩
          · obtain rfl : k2 = K := by omega
            have hRs : R = some (cs.map LPost.p, q) := by rw [hRR, Nat.sub_self]; simp [refRun]
            have hTs : T = (if (o2.isSome && overS q) = true then (refCh k (m + 1 - 4) la o2).map (fun y => (cs.map LPost.p ++ y.1, y.2)) else none).map (fun x => (ls.map LPost.p ++ x.1, x.2)) := by
              rw [HTT.out, hRs, hlac]
              rfl
            obtain ⟨_, _, ec, _, hec, hec0, hec1⟩ := hro.cell
            have HEn := Lib.hid (fsend gr q wr hrq)
            have HNN : Hid (T = none → refDec bs = none) := by
              intro e
              rw [HD.out, e]; rfl
            have hj2 : decide ((k2 : Int) < (k2 : Int)) = false := decide_eq_false (by omega)
            have HTs := Lib.hid hTs
            clear hRR hRs hTs hL hcl hlac
            cases hos : o2.isSome with
            | false =>
              have hcp := hec1 hos
              have hcq : ((ec : Int) == 0) = false := beq_eq_false_iff_ne.mpr (by omega)
              have hcq2 : ((ec : Int) != 0) = true := by rw [bne, hcq]; rfl
              have hRn := HNN.out (by rw [HTs.out, hos]; rfl)
              have HRn := Lib.hid hRn
              clear hos hec0 hec1 hRn HEn
              go_wp2_with fail
              go_returns
              exact ⟨hb, fun _ => rfl, fun l hl => by rw [HRn.out] at hl; cases hl⟩
            | true =>
              obtain rfl := hec0 hos
              cases hov : overS q with
              | false =>
                have hRn := HNN.out (by rw [HTs.out, hos, hov]; rfl)
                have HRn := Lib.hid hRn
                clear hec0 hec1 hRn hos
                go_wp2_with (go_at_call 30; refine HEn.out.mono ?_; rintro e8 w8 ⟨cc, rfl, _, hc, rfl⟩
                             have hc0 := hc hov
                             have hcq : ((cc : Int) == 0) = false := beq_eq_false_iff_ne.mpr (by omega)
                             have hcq2 : ((cc : Int) != 0) = true := by rw [bne, hcq]; rfl)
                go_returns
                exact ⟨hb, fun _ => rfl, fun l hl => by rw [HRn.out] at hl; cases hl⟩
              | true =>
                have hT' : T = (refCh ((n - L.length + 3) / 4) (n - L.length) la o2).map (fun x => (L.map LPost.p ++ x.1, x.2)) := by
                  have e1 : n - L.length = m + 1 - 4 := by have := HM.out; have := HK.out; have := HIl.out; omega
                  have e2 : (n - L.length + 3) / 4 = k := by have := HKk.out; omega
                  rw [e2, e1, HTs.out, hos, hov, HL.out]
                  simp only [Bool.and_self, if_true, Option.map_map, List.map_append, List.append_assoc]
                  rfl
                have HT' := Lib.hid hT'
                have hll' : L.length = min n (4 * ((i + 1 + 3) / 4)) := by have := HM.out; have := HK.out; have := HIl.out; have := HI4.out; omega
                have HLl' := Lib.hid hll'
                have hla' : la = lastD (-1) (L.map LPost.p) := by
                  rw [HL.out, List.map_append, HLac.out, HLA.out]
                  exact (lastD_app _ _ _).symm
                have HLa' := Lib.hid hla'
                have hlb1' : la ≤ 65537 * (L.length : Int) := by rw [hLl]; exact hlb1
                have HLb := Lib.hid hlb1'
                clear hec0 hec1 hT' hos hll' hla' hlb1' hLl
                go_wp2_with (go_at_call 30; refine HEn.out.mono ?_; rintro e8 w8 ⟨cc, rfl, hc, _, rfl⟩
                             obtain rfl := hc hov)
                go_roundg (n - (i + 1))
                case measure => omega
                case rel => exact ⟨i + 1, L, la, o2, by omega, by go_num, rfl, HLl'.out, HLa'.out, hlb0, HLb.out, hown, (fun p hp => ⟨(hkp p hp).1.other hgb, (hkp p hp).2⟩), (fun k' hk' => (hnb k' hk').1), hro, hol2, HT'.out, hb, by have := HS9.out; omega⟩
      · have hq : ((i : Int).tmod 4 == 0) = false := beq_eq_false_iff_ne.mpr (by rw [Int.tmod_eq_emod_of_nonneg (by omega)]; omega)
        have HLL := Lib.hid hll
        have HLA := Lib.hid hla
        have HTT := Lib.hid hTT
        clear hll hla hTT
        go_wp2_with fail
        go_roundg (n - (i + 1))
        case measure => omega
        case rel => exact ⟨i + 1, ls, last, o, by omega, by go_num, rfl, by rw [HLL.out]; omega, HLA.out, hla0, hla1, hown, hkp, hnb, hro, hlo, HTT.out, hb, hsz⟩
    · obtain rfl : i = n := by omega
      have hln : ls.length = i := by rw [hll]; omega
      have hTn : T = some (ls.map LPost.p, o) := by
        rw [hTT, hln, Nat.sub_self]
        simp [refCh]
      have HR : Hid (refDec bs = if (overS o && chkB (ls.map LPost.p)) = true then some (ls.map LPost.p) else none) := by
        show _ = _
        rw [HD.out, hTn]
        rfl
      have hj1 : decide ((i : Int) < (i : Int)) = false := decide_eq_false (by omega)
      have HE := Lib.hid (fsend g o wr hro)
      have hli : Lies wr Av (ls.flatMap pk) := Lies.of_own hown
      have hpo : Posts wr Av cv ls := ⟨hli, fun p hp => (hkp p hp).1.i, hcv, by omega⟩
      have HCk := Lib.hid (rcheck_any Av cv ls wr hpo (fun p hp => by have := (hkp p hp).2; omega))
      have HPo := Lib.hid hpo
      clear hll hla hTT hown hkp hnb hro hlo hli hpo HT HD hTn hln
      cases hov : overS o with
      | false =>
        rw [hov] at HR
        have HR2 : Hid (refDec bs = none) := HR.out
        clear HR HCk
        go_wp2_with (go_at_call 30; refine HE.out.mono ?_; rintro e8 w8 ⟨cc, rfl, _, hc, rfl⟩
                     have hc0 := hc hov
                     have hcq : ((cc : Int) == 0) = false := beq_eq_false_iff_ne.mpr (by omega)
                     have hcq2 : ((cc : Int) != 0) = true := by rw [bne, hcq]; rfl)
        go_returns
        exact ⟨hb, fun _ => rfl, fun l hl => by rw [HR2.out] at hl; cases hl⟩
      | true =>
        rw [hov] at HR
        cases hck : chkB (ls.map LPost.p) with
        | false =>
          rw [chkE_no hck] at HCk
          rw [hck] at HR
          have HR2 : Hid (refDec bs = none) := HR.out
          clear HR hck
          go_wp2_with (first
            | (go_at_call 30; refine HE.out.mono ?_; rintro e8 w8 ⟨cc, rfl, hc, _, rfl⟩
               obtain rfl := hc hov)
            | (go_at_call 14; refine HCk.out.mono ?_; rintro e9 w9 ⟨rfl, hb9⟩))
          go_returns
          exact ⟨hb.trans (hb9.mono hb.size), fun _ => rfl, fun l hl => by rw [HR2.out] at hl; cases hl⟩
        | true =>
          rw [chkE_ok hck] at HCk
          rw [hck] at HR
          have HR2 : Hid (refDec bs = some (ls.map LPost.p)) := HR.out
          clear HR hck
          go_wp2_with (first
            | (go_at_call 30; refine HE.out.mono ?_; rintro e8 w8 ⟨cc, rfl, hc, _, rfl⟩
               obtain rfl := hc hov)
            | (go_at_call 14; refine HCk.out.mono ?_; rintro e9 w9 ⟨rfl, hb9⟩))
          go_returns
          exact ⟨hb.trans (hb9.mono hb.size), (fun h => by rw [HR2.out] at h; cases h), (fun l hl => by
            rw [HR2.out] at hl
            injection hl with hl
            exact ⟨Av, cv, ls, rfl, HPo.out.below hb9, hl⟩)⟩
end Go.Proofs.Ytbeejmedekgjjaa
