/- A log's Append. -/
import Derived.Test.YtjfpanamkkdebaaJnQ
import Derived.Deep.RegionLaw
namespace Go.Proofs.Ytjfpanamkkdebaa
open Go.RowKit
set_option linter.unusedVariables false
set_option linter.unusedSimpArgs false
section
variable {P : Program} {w : World}
theorem own_there {base : Nat} {e : TypeId} {size n : Nat} {v : Value} {xs : List Value} (h : w.ownsRow base e size v n xs) (hn : 0 < n) : ∃ j, v.ownBlock = some j ∧ base ≤ j := by
  obtain ⟨g, c, rfl, hg, _⟩ := own_pos h hn
  exact ⟨g, rfl, hg⟩
theorem run_append_from (t ty e : TypeId) (z : Value) (bytes : Nat) (ht : P.underlying t = some (.slice e))
    (hinfo : (P.info? e).map (fun i => (i.zero, i.size, i.bytes)) = some (some z, 1, bytes)) (hzs : z.cells.size = 1)
    (v : Value) (xs : List Value) (hr : RowFrom w e v xs) (ad : Addr) (u : Value) (hu : w.cell? ad = some u) (h1 : u.oneCell' = true)
    (h63 : xs.length + 1 ≤ maxLen) (hbytes : (xs.length + 1) * bytes ≤ 140737488355328) :
    ∃ v' w', (Builtin.append_ #[t, t] ty #[v, .slice (some ad) 1 1]).run P w = .ok v' w' ∧ RowFrom w' e v' (xs ++ [u]) ∧ w.grownBy w' v.ownBlock ∧ (v'.ownBlock = v.ownBlock ∨ ∃ j, v'.ownBlock = some j ∧ w.heap.size ≤ j) := by
  obtain ⟨i, hi, hz, hsize, hby⟩ := info_parts hinfo
  rcases hr with ⟨rfl, rfl⟩ | ⟨g, o, c, cs, rfl, hh, k1, k2, k3, k4⟩
  · obtain ⟨v', w', hr, h2, h3, _⟩ := run_append_own (P := P) w w.heap.size t ty e i z 1 bytes ht hi hz hsize hby hzs (by decide) _ 0 [] (World.ownsRow_nil w w.heap.size e 1) ad 1 1 [u] rfl (one_news hu) (by intro q hq; cases List.mem_singleton.1 hq; exact h1) (by simpa using h63) (by simpa using hbytes) (Nat.le_refl _)
    exact ⟨v', w', hr, RowFrom.of_own h2, h3, .inr (own_there h2 (by omega))⟩
  · by_cases hroom : xs.length + 1 ≤ c
    · have hr := run_append_room_cells (P := P) w t ty e i ht hi g o xs.length c ad 1 1 [u] (by rw [hsize]; rfl) (one_news hu) (by intro q hq; cases List.mem_singleton.1 hq; exact h1) hroom
        (by intro j hj; simp only [List.length_singleton] at hj; rw [hsize, blk_cell hh, Array.getElem?_eq_getElem (by omega)]; rfl)
        (by intro j hj; exact blk_free hh)
      refine ⟨_, _, hr, ?_, ?_, .inl rfl⟩
      · right
        have hnew := heap_setCell_same w g (o + xs.length * i.size) _ _ u hh
        refine ⟨g, o, c, _, by rw [List.length_append, List.length_singleton], hnew, by rw [List.length_append, List.length_singleton]; omega, by rw [Array.size_setIfInBounds]; omega, k3, fun j q hj => ?_⟩
        rw [hsize, Nat.mul_one, Array.getElem?_setIfInBounds]
        rcases Nat.lt_or_ge j xs.length with hlt | hge
        · rw [List.getElem?_append_left hlt] at hj
          rw [if_neg (by omega)]
          exact k4 j q hj
        · have hj2 : j = xs.length := by
            have := (List.getElem?_eq_some_iff.1 hj).1
            rw [List.length_append, List.length_singleton] at this
            omega
          subst hj2
          rw [List.getElem?_append_right (Nat.le_refl _), Nat.sub_self] at hj
          rw [if_pos rfl, if_pos (by omega)]
          exact hj
      · exact Lib.grownBy_setCell w g _ u
    · obtain ⟨v', w', hr, h2, h3⟩ := run_append_arg_grows (P := P) w t ty e i z 1 bytes ht hi hz hsize hby hzs (by decide) ⟨g, o, none⟩ xs.length c xs (by rw [Nat.mul_one]) (fun j q hj => by rw [Addr.add_lit]; exact (blk_cell hh).trans (k4 j q hj)) ad 1 1 [u] rfl (one_news hu) (by omega) h63 hbytes
      exact ⟨v', w', hr, RowFrom.of_own h2, ⟨h3.os, h3.tape, h3.output, h3.size, fun j hj _ => h3.block j hj (by simp)⟩, .inr (own_there h2 (by omega))⟩
theorem step_from {ops : Array Oper} {o : Oper} {a : Act} {K : Act → World → Prop} {Q : Exit → Act → World → Prop} {E : Prop} (hgd : o.guard = none) (s x : Operand) (t : TypeId)
    (ho : o.op = .call { callee := .builtin .append, args := #[s, x], argTypes := #[t, t] })
    (e : TypeId) (z : Value) (bytes : Nat) (ht : P.underlying t = some (.slice e))
    (hinfo : (P.info? e).map (fun i => (i.zero, i.size, i.bytes)) = some (some z, 1, bytes)) (hzs : z.cells.size = 1)
    (v : Value) (n : Nat) (xs : List Value) (hn : xs.length = n) (hs : a.eval s = v) (hr : RowFrom w e v xs)
    (ad : Addr) (u : Value) (hx : a.eval x = .slice (some ad) 1 1) (hu : w.cell? ad = some u) (h1 : u.oneCell' = true)
    (h63 : n + 1 ≤ maxLen) (hbytes : (n + 1) * bytes ≤ 140737488355328)
    (h : ∀ A' c' w', RowFrom w' e (.slice A' (n + 1) c') (xs ++ [u]) → w.grownBy w' v.ownBlock → ((Value.slice A' (n + 1) c').ownBlock = v.ownBlock ∨ ∃ j, (Value.slice A' (n + 1) c').ownBlock = some j ∧ w.heap.size ≤ j) → K (a.put o.dst (.slice A' (n + 1) c')) w') :
    if Region.wanted o (yielded ops a.tmps) = true then Oper.wp P o a w K Q else E := by
  subst hn
  rw [if_pos (by simp [Region.wanted, hgd])]
  obtain ⟨v', w', hrun, h2, h3, h4⟩ := run_append_from (P := P) (w := w) t o.type e z bytes ht hinfo hzs v xs hr ad u hu h1 h63 hbytes
  obtain ⟨A', c', rfl, -⟩ := h2.form
  rw [List.length_append, List.length_singleton] at hrun h2 h4
  unfold Oper.wp execOp
  simp only [ho, resolve, invoke, builtin, Sem.run_bind, Sem.run_pure, Result.andThen_ok, List.map_toArray, List.map_cons, List.map_nil, hs, hx, hrun]
  exact h A' c' w' h2 h3 h4
end
theorem Only.of_opt {a b : World} {r : Option Nat} (h : a.grownBy b r) : Only a b r.toList :=
  ⟨h.os, h.tape, h.output, h.size, fun i hi hn => h.block i hi (fun e => hn (by rw [← e]; simp))⟩
theorem RowFrom.blk {w : World} {e : TypeId} {v : Value} {xs : List Value} (h : RowFrom w e v xs) : ∀ j, v.ownBlock = some j → ∃ cs, w.heap[j]? = some (.cells cs e (0, 0)) := by
  intro j hj
  rcases h with ⟨rfl, _⟩ | ⟨g, o, c, cs, rfl, hh, _⟩
  · cases hj
  · injection hj with hj
    subst hj
    exact ⟨cs, hh⟩
theorem append_tail {w8 w9 w11 : World} {l hf ep sl pg : Nat} {bs : List UInt8} {g k m c : Nat} {d : Dsk} {vs rv : Value} {su n : Nat} {rs : List RSl} {A9 A' : Option Addr} {c9 c' : Nat} {b snap : List UInt8}
    (h8 : LgAt w8 l hf ep sl pg bs g k m c d vs rv su) (hsn : OB w8 0 vs snap) (hrs : RecsAt w8 rv rs)
    (hb9 : Below w8.drew.heap.size w8.drew w9) (ho9 : OB w9 w8.drew.heap.size (.slice A9 b.length c9) b)
    (hrow : RowFrom w11 29 (.slice A' (n + 1) c') (rs.map RSl.v ++ [.slice A9 b.length c9])) (hg : (w9.alloc (.cells #[.slice A9 b.length c9] 29)).grownBy w11 rv.ownBlock)
    (hor : (Value.slice A' (n + 1) c').ownBlock = rv.ownBlock ∨ ∃ j, (Value.slice A' (n + 1) c').ownBlock = some j ∧ (w9.alloc (.cells #[.slice A9 b.length c9] 29)).heap.size ≤ j) :
    LgAt (w11.setCell ⟨l, 7, none⟩ (.slice A' (n + 1) c')) l hf ep sl pg bs g k m c d vs (.slice A' (n + 1) c') su ∧ OB (w11.setCell ⟨l, 7, none⟩ (.slice A' (n + 1) c')) 0 vs snap ∧ RecsAt (w11.setCell ⟨l, 7, none⟩ (.slice A' (n + 1) c')) (.slice A' (n + 1) c') (rs ++ [⟨A9, c9, b⟩]) ∧
      Only w8 (w11.setCell ⟨l, 7, none⟩ (.slice A' (n + 1) c')) ([l] ++ rv.ownBlock.toList) ∧ ((Value.slice A' (n + 1) c').ownBlock = rv.ownBlock ∨ ∃ j, (Value.slice A' (n + 1) c').ownBlock = some j ∧ w8.heap.size ≤ j) := by
  obtain ⟨bv, hc, hbv⟩ := h8.cells
  have hl := blk_lt hc.blk
  have hbA : Below w8.heap.size w8 (w9.alloc (.cells #[.slice A9 b.length c9] 29)) := ((Below.refl w8.heap.size w8).drew.trans hb9).alloc hb9.size _
  have hlA := (hbA.block l hl).trans hc.blk
  have hrvb := hrs.1.blk
  -- the blocks that may turn hold no such thing
  have hq : ∀ j, j ∈ rv.ownBlock.toList → ∃ cs, w8.heap[j]? = some (.cells cs 29 (0, 0)) := fun j hj => hrvb j (by simpa using hj)
  have hlq : l ∉ rv.ownBlock.toList := by
    intro hj
    obtain ⟨cs, h⟩ := hq l hj
    rw [hc.blk] at h
    injection h with h
    injection h with _ h
    exact absurd h (by decide)
  have hl11 : w11.heap[l]? = _ := ((Only.of_opt hg).block l (Nat.lt_of_lt_of_le hl hbA.size) hlq).trans hlA
  have hoS : Only w11 (w11.setCell ⟨l, 7, none⟩ (.slice A' (n + 1) c')) [l] := Only.of_grown (Lib.grownBy_setCell w11 l 7 _)
  have hoA : Only (w9.alloc (.cells #[.slice A9 b.length c9] 29)) (w11.setCell ⟨l, 7, none⟩ (.slice A' (n + 1) c')) ([l] ++ rv.ownBlock.toList) := ((Only.of_opt hg).mono (by simp; intro i h; exact .inr h)).trans (hoS.mono (by simp))
  have hoX : Only w8 (w11.setCell ⟨l, 7, none⟩ (.slice A' (n + 1) c')) ([l] ++ rv.ownBlock.toList) := (Only.of_below hbA _).trans hoA
  have hap : ∀ j cs f, w8.heap[j]? = some (.cells cs 5 f) → j ∉ [l] ++ rv.ownBlock.toList := by
    intro j cs f hj hm
    rcases List.mem_append.1 hm with hm | hm
    · rw [List.mem_singleton.1 hm, hc.blk] at hj
      injection hj with hj
      injection hj with _ hj
      exact absurd hj (by decide)
    · obtain ⟨cs2, h2⟩ := hq j hm
      rw [h2] at hj
      injection hj with hj
      injection hj with _ hj
      exact absurd hj (by decide)
  have ob : ∀ B v x, OB w8 B v x → OB (w11.setCell ⟨l, 7, none⟩ (.slice A' (n + 1) c')) B v x := fun B v x h => own_only h hoX (fun j hj => by obtain ⟨cs, hc⟩ := own_blk h j hj; exact hap _ _ _ hc)
  have hdq : ∀ j, j ∈ [g, k, m] → j ∉ [l] ++ rv.ownBlock.toList := by
    intro j hj hm
    rcases List.mem_append.1 hm with hm | hm
    · have := h8.lg; have := h8.lk; have := h8.lm
      rw [List.mem_singleton.1 hm] at hj
      simp at hj
      omega
    · obtain ⟨cs2, h2⟩ := hq j hm
      exact h8.dk.apart h2 (by decide) (by decide) hj
  have hlE := heap_setCell_same w11 l 7 _ _ (.slice A' (n + 1) c') hl11
  refine ⟨⟨⟨bv, ⟨hlE⟩, ob _ _ _ hbv⟩, h8.dk.only hoX (hdq g (by simp)) (hdq k (by simp)) (hdq m (by simp)), h8.lg, h8.lk, h8.lm⟩, ob _ _ _ hsn, ⟨?_, ?_⟩, hoX, ?_⟩
  · rw [List.map_append]
    refine hrow.only hoS (fun j cs f hj hm => ?_)
    rw [List.mem_singleton.1 hm, hl11] at hj
    injection hj with hj
    injection hj with _ hj
    exact absurd hj (by decide)
  · intro r hr
    rcases List.mem_append.1 hr with hr | hr
    · exact ob _ _ _ (hrs.2 r hr)
    · rw [List.mem_singleton.1 hr]
      have h1 : OB (w9.alloc (.cells #[.slice A9 b.length c9] 29)) w8.drew.heap.size (.slice A9 b.length c9) b := ho9.below ((Below.refl _ _).alloc (Nat.le_refl _) _)
      have h2 : OB (w11.setCell ⟨l, 7, none⟩ (.slice A' (n + 1) c')) w8.drew.heap.size (.slice A9 b.length c9) b := own_only h1 hoA (fun j hj hm => by
        have hge := (World.ownsRow.lt h1 j hj).1
        have hge2 : w8.heap.size ≤ j := hge
        rcases List.mem_append.1 hm with hm | hm
        · have := List.mem_singleton.1 hm; omega
        · obtain ⟨cs2, h2⟩ := hq j hm
          have := blk_lt h2
          omega)
      exact OB.mono h2 (Nat.zero_le _)
  · exact hor.imp id (fun ⟨j, h1, h2⟩ => ⟨j, h1, Nat.le_trans hbA.size h2⟩)
def appendP (L : Lg) (b : List UInt8) : Nat × Nat × Lg :=
  if L.d.dead then (0, 9, L)
  else if b.length = 0 ∨ 262144 < b.length then (0, 1, L)
  else if growP L.pg L.bs.length (framedP b).length L.d.room = false then (0, 8, L)
  else
    let p := pourP L.hf L.ep (framedP b).length L.d L.pg L.bs (framedP b)
    if p.e ≠ 0 then (0, p.e, { L with d := p.d, pg := p.pg, bs := p.bs })
    else (L.recs.length + 1, 0, { L with d := p.d, pg := p.pg, bs := p.bs, recs := L.recs ++ [b] })
set_option maxRecDepth 100000 in
set_option maxHeartbeats 3200000 in
theorem append_any (l g k m c : Nat) (q : Option Nat) (L : Lg) (As : Option Addr) (cs : Nat) (b : List UInt8) (w : World) (h : JLog w l g k m c q L) (hf : L.Fit) (hs : RB w As b) (hAs : As = none → cs = 0) (hsc : b.length ≤ cs) (hsm : b.length ≤ 9223372036854775807)
    (hA : ∀ a, As = some a → b ≠ [] → a.block ∉ [l, g, k, m]) :
    Calls Try.prog 21 #[.pointer (some ⟨l, 0, none⟩), .slice As b.length cs] w fun e w' => e = .returned (.tuple #[.int .i64 (appendP L b).1, .int .i64 (appendP L b).2.1]) ∧
      (∃ q', JLog w' l g k m c q' (appendP L b).2.2 ∧ (q' = q ∨ ∃ j, q' = some j ∧ w.heap.size ≤ j)) ∧ Only w w' ([l, g, m] ++ q.toList) := by
  have HM := Lib.hid (may_any l g k m c q L w h)
  have HJ := Lib.hid h
  obtain ⟨vs, rv, rs, hlg, hsn, hrs, hre⟩ := h
  obtain ⟨bv, hc, hbv⟩ := hlg.cells
  have hdk := hlg.dk
  obtain ⟨L', hL'⟩ : ∃ L', appendP L b = L' := ⟨_, rfl⟩
  rw [hL']
  have HL := Lib.hid hL'
  unfold appendP at HL
  have hfit := hf
  obtain ⟨lf, le, ls, lp, lb, ld, lsn, lrc, lsu⟩ := L
  obtain ⟨f1, f2, f3, f4, f5, f6⟩ := hfit
  dsimp only at *
  have HC := Lib.hid (⟨hlg, hc, hbv, hsn, hrs, hre⟩ : _ ∧ _ ∧ _ ∧ _ ∧ _ ∧ _)
  clear hL' hlg hc hbv hsn hrs hre hf
  cases hdd : ld.dead with
  | true =>
    rw [hdd] at HM HL
    simp only [if_true] at HM HL
    clear hdd
    go_enter Try.func21, Try.ntmps21
    go_wp2_with (go_at_call 47; refine HM.out.mono ?_; rintro e w' ⟨rfl, rfl⟩)
    go_returns
    rw [← HL.out]
    exact ⟨rfl, ⟨q, HJ.out, .inl rfl⟩, Only.refl _ _⟩
  | false =>
    rw [hdd] at HM HL
    simp only [Bool.false_eq_true, if_false] at HM HL
    have hbp := f6 hdd
    clear hdd f6
    by_cases hb0 : b.length = 0
    · have h80 : ((b.length : Int) == 0) = true := by rw [hb0]; rfl
      rw [if_pos (.inl hb0)] at HL
      go_enter Try.func21, Try.ntmps21
      go_wp2_with (go_at_call 47; refine HM.out.mono ?_; rintro e w' ⟨rfl, rfl⟩)
      go_returns
      rw [← HL.out]
      exact ⟨rfl, ⟨q, HJ.out, .inl rfl⟩, Only.refl _ _⟩
    · have h80 : ((b.length : Int) == 0) = false := by rw [beq_eq_false_iff_ne]; omega
      have h81 : ¬ ((b.length : Int) = 0) := by omega
      by_cases hbg : 262144 < b.length
      · have h82 : decide ((b.length : Int) > 262144) = true := decide_eq_true (by omega)
        have h83 : decide ((262144 : Int) < (b.length : Int)) = true := decide_eq_true (by omega)
        have h84 : decide (262144 < b.length) = true := decide_eq_true hbg
        rw [if_pos (.inr hbg)] at HL
        go_enter Try.func21, Try.ntmps21
        go_wp2_with (go_at_call 47; refine HM.out.mono ?_; rintro e w' ⟨rfl, rfl⟩)
        go_returns
        rw [← HL.out]
        exact ⟨rfl, ⟨q, HJ.out, .inl rfl⟩, Only.refl _ _⟩
      · have h82 : decide ((b.length : Int) > 262144) = false := decide_eq_false (by omega)
        have h83 : decide ((262144 : Int) < (b.length : Int)) = false := decide_eq_false (by omega)
        have h84 : decide (262144 < b.length) = false := decide_eq_false hbg
        rw [if_neg (by omega)] at HL
        have HFr := Lib.hid (framed_any As cs b w (by omega) hAs hs)
        have hfl := framedP_le b (by omega)
        obtain ⟨F, hF⟩ : ∃ F, framedP b = F := ⟨_, rfl⟩
        rw [hF] at HFr hfl HL
        have HFe := Lib.hid hF
        clear hF
        go_enter Try.func21, Try.ntmps21
        go_wp2_with (first
          | (go_at_call 47; refine HM.out.mono ?_; rintro e w' ⟨rfl, rfl⟩)
          | (go_at_call 48; refine HFr.out.mono ?_; rintro e w1 ⟨v1, rfl, ho1, hb1⟩; obtain ⟨A1, c1, rfl, hl1, hA1⟩ := OB.form ho1))
        obtain ⟨hlg, hc, hbv, hsn, hrs, hre, hrq⟩ := HC.out
        obtain ⟨Ab, cb, rfl, -⟩ := OB.form hbv
        obtain ⟨Ar, cr, rfl, -⟩ := hrs.1.form
        obtain ⟨n, hn⟩ : ∃ n, (rs.map RSl.v).length = n := ⟨_, rfl⟩
        rw [hn] at HC hlg hc hrs hrq
        have hnl : n = lrc.length := by rw [← hn, ← hre, List.length_map, List.length_map]
        have HN := Lib.hid (⟨hn, hnl⟩ : _ ∧ _)
        have hnf : n ≤ 1000000 := by omega
        have HSb := Lib.hid hs
        clear hn hnl
        have hdk1 := hdk.below hb1
        have hl1 := (hb1.block l hlg.lt).trans hc.blk
        have hlt1 := blk_lt hl1
        have hrm := ld.room_le hdk.ok.most
        have c3 : w1.cell? ⟨l, 3, none⟩ = some (.int .i64 lp) := blk_cell hl1
        have c4 : w1.cell? ⟨l, 4, none⟩ = some (.slice Ab lb.length cb) := blk_cell hl1
        have c5 : w1.cell? ⟨l, 5, none⟩ = some (.pointer (some ⟨g, 0, none⟩)) := blk_cell hl1
        have HRm := Lib.hid (room_any g k m c ld w1.drew (hdk1.below (Below.refl _ _).drew))
        have HGr := Lib.hid (fun W => grow_any lp F.length ld.room cb Ab lb W (by omega) (by omega) (by omega) (by omega))
        have hlD : l < w1.drew.heap.size := hlt1
        have HB1 := Lib.hid (⟨hb1, ho1⟩ : _ ∧ _)
        have HNe := Lib.hid (⟨hlg.lg, hlg.lk, hlg.lm, hlg.lt⟩ : l ≠ g ∧ l ≠ k ∧ l ≠ m ∧ l < w.heap.size)
        have hdl := hdk.lt
        clear hlg hc hbv hsn hrs hre hrq hdk1 hl1 hb1 ho1 hs HM HFr
        cases hgr : growP lp lb.length F.length ld.room with
        | false =>
          rw [hgr, if_pos rfl] at HL
          rw [hgr] at HGr
          go_region_held3 (fun w' => w'.cell? ⟨l, 3, none⟩ = some (.int .i64 lp) ∧ w'.cell? ⟨l, 4, none⟩ = some (.slice Ab lb.length cb) ∧ w'.cell? ⟨l, 5, none⟩ = some (.pointer (some ⟨g, 0, none⟩))) (first | exact ⟨c3, c4, c5⟩ | exact ⟨y3, y4, y5⟩) (first
            | (go_at_call 50; refine HRm.out.mono ?_; rintro e w6 ⟨rfl, rfl⟩)
            | (go_at_call 49; refine (HGr.out _).mono ?_; rintro e w6 ⟨rfl, hb6⟩; have y3 := (hb6.cell (p := ⟨l, 3, none⟩) hlD).trans c3; have y4 := (hb6.cell (p := ⟨l, 4, none⟩) hlD).trans c4; have y5 := (hb6.cell (p := ⟨l, 5, none⟩) hlD).trans c5))
          have hbE : Below w.heap.size w w6 := HB1.out.1.trans (((Below.refl w1.heap.size w1).drew.trans hb6).mono HB1.out.1.size)
          go_wp2_with fail
          go_returns
          rw [← HL.out]
          exact ⟨rfl, ⟨q, HJ.out.below hbE, .inl rfl⟩, .of_below hbE _⟩
        | true =>
          rw [hgr, if_neg (by simp)] at HL
          rw [hgr] at HGr
          go_region_held3 (fun w' => w'.cell? ⟨l, 3, none⟩ = some (.int .i64 lp) ∧ w'.cell? ⟨l, 4, none⟩ = some (.slice Ab lb.length cb) ∧ w'.cell? ⟨l, 5, none⟩ = some (.pointer (some ⟨g, 0, none⟩))) (first | exact ⟨c3, c4, c5⟩ | exact ⟨y3, y4, y5⟩) (first
            | (go_at_call 50; refine HRm.out.mono ?_; rintro e w6 ⟨rfl, rfl⟩)
            | (go_at_call 49; refine (HGr.out _).mono ?_; rintro e w6 ⟨rfl, hb6⟩; have y3 := (hb6.cell (p := ⟨l, 3, none⟩) hlD).trans c3; have y4 := (hb6.cell (p := ⟨l, 4, none⟩) hlD).trans c4; have y5 := (hb6.cell (p := ⟨l, 5, none⟩) hlD).trans c5))
          rename_i hheld
          have hb16 : Below w1.heap.size w1 w6 := (Below.refl w1.heap.size w1).drew.trans hb6
          have hbE : Below w.heap.size w w6 := HB1.out.1.trans (hb16.mono HB1.out.1.size)
          have hlg6 := HC.out.1.below hbE
          have hoF := HB1.out.2.below hb16
          have hgr2 : lp * 113 + lb.length + F.length ≤ 400000 := by
            unfold growP at hgr
            simp at hgr
            omega
          have HPo := pour_any l lf le ls lp lb g k m c ld vs _ lsu A1 c1 F w6 hlg6 f1 f3 hbp.1 hgr2 (RB.of_own hoF) hA1 hl1 (fun a ha hne => by
            subst ha
            have := (World.ownsRow.lt hoF a.block rfl).1
            have := HNe.out.2.2.2
            simp; omega)
          have HPo := Lib.hid HPo
          have HW6 := Lib.hid (⟨hbE, hlg6⟩ : _ ∧ _)
          clear hheld hb6 hb16 hbE hlg6 hoF y3 y4 y5 c3 c4 c5 HGr HRm
          try dsimp only at HL
          obtain ⟨P, hP⟩ : ∃ P, pourP lf le F.length ld lp lb F = P := ⟨_, rfl⟩
          rw [hP] at HPo HL
          obtain ⟨pd, pp, pbs, pe⟩ := P
          dsimp only at HPo HL
          clear hP
          go_wp2_with fail
          refine HPo.out.mono ?_
          rintro e w8 ⟨rfl, hlg8, ho8⟩
          have hbE := HW6.out.1
          have hrs6 := HC.out.2.2.2.2.1.below hbE
          have hsn6 := HC.out.2.2.2.1.below hbE
          have hapart : ∀ j cs e f, w6.heap[j]? = some (.cells cs e f) → e = 5 ∨ e = 29 → j ∉ [l, g, m] := by
            intro j cs e f hj he
            have h1 := (hdk.below hbE).apart hj (by rcases he with rfl | rfl <;> decide) (by rcases he with rfl | rfl <;> decide)
            have h2 : j ≠ l := by
              rintro rfl
              have h3 := ((hbE.block j HNe.out.2.2.2).trans HC.out.2.1.blk)
              rw [h3] at hj
              injection hj with hj
              injection hj with _ hj
              rcases he with rfl | rfl <;> exact absurd hj (by decide)
            simp at h1 ⊢
            omega
          have hrs8 := hrs6.only ho8 hapart
          have hsn8 : OB w8 0 vs lsn := own_only hsn6 ho8 (fun j hj => by obtain ⟨cs, hc⟩ := own_blk hsn6 j hj; exact hapart _ _ _ _ hc (.inl rfl))
          have hoE : Only w w8 [l, g, m] := (Only.of_below hbE _).trans ho8
          by_cases hpe : pe = 0
          · subst hpe
            rw [if_neg (by simp)] at HL
            obtain ⟨bv8, hc8, hbv8⟩ := hlg8.cells
            obtain ⟨Ab8, cb8, rfl, -⟩ := OB.form hbv8
            have hl8 := blk_lt hc8.blk
            have hrb8 : RB w8 As b := RB.only (HSb.out.below hbE) ho8 (fun a ha hne => by have := hA a ha hne; simp at this ⊢; omega)
            have HCl := Lib.hid (bclone_wide As cs b w8.drew (by omega) hAs (RB.drew hrb8))
            have k7 : w8.drew.cell? ⟨l, 7, none⟩ = some (.slice Ar n cr) := blk_cell hc8.blk
            have hrow8 : RowFrom w8.drew 29 (.slice Ar n cr) (rs.map RSl.v) := hrs8.1.below (Below.refl _ _).drew
            have hnt : ∀ W, Below w8.drew.heap.size w8.drew W → RowFrom W 29 (.slice Ar n cr) (rs.map RSl.v) := fun W hb => hrow8.below hb
            have HNt := Lib.hid hnt
            have HK := Lib.hid (⟨hlg8, hsn8, hrs8, hoE, hc8, hbv8⟩ : _ ∧ _ ∧ _ ∧ _ ∧ _ ∧ _)
            have hrq : (Value.slice Ar n cr).ownBlock = q := HC.out.2.2.2.2.2.2
            have hlD8 : l < w8.drew.heap.size := hl8
            have hblkD : w8.drew.heap[l]? = _ := hc8.blk
            have hrn : ∀ j, (Value.slice Ar n cr).ownBlock = some j → j ≠ l := by
              intro j hj e
              subst e
              rcases hrow8 with ⟨e, _⟩ | ⟨g', o', c', cs', e, hh, _⟩
              · rw [e] at hj; cases hj
              · rw [e] at hj
                injection hj with hj
                rw [← hj] at hblkD
                have hh2 : w8.drew.heap[g']? = _ := hh
                rw [hh2] at hblkD
                injection hblkD with hblkD
                injection hblkD with _ hblkD
                exact absurd hblkD (by decide)
            have HBl := Lib.hid hblkD
            have HRn := Lib.hid hrn
            have hn1 : n + 1 ≤ maxLen := by simp only [maxLen]; omega
            have hn2 : (n + 1) * 24 ≤ 140737488355328 := by omega
            have hxn : (rs.map RSl.v).length = n := HN.out.1
            clear hlg8 hsn8 hrs8 hoE hc8 hbv8 ho8 hapart hrs6 hsn6 hbE hrow8 hnt hrb8 hblkD hrn HPo
            go_wp2_with fail
            go_region_law (first
              | (go_simp; go_at_call 40; refine HCl.out.mono ?_; rintro e w9 ⟨v9, rfl, ho9, hb9⟩; obtain ⟨A9, c9, rfl, hl9, hA9⟩ := OB.form ho9; have k79 := (hb9.cell (p := ⟨l, 7, none⟩) hlD8).trans k7; have k79A := cell_alloc (o := .cells #[.slice A9 b.length c9] 29) k79; have hbl := HBl.out; have hbl9 := (hb9.block l hlD8).trans hbl)
              | (refine step_from rfl _ _ 22 rfl 29 _ 24 Try.underlying22 info_bs rfl (.slice Ar n cr) n (rs.map RSl.v) hxn rfl (HNt.out _ (hb9.alloc hb9.size _)) _ (.slice A9 b.length c9) rfl (tmp_here _ _ _) rfl hn1 hn2 ?_; intro A' c' w11 hrow hg hor; have hbl11 := (hg.block l (Nat.lt_of_lt_of_le hlD8 (hb9.alloc hb9.size _).size) (fun e => HRn.out l e.symm rfl)).trans ((hb9.alloc hb9.size _).block l hlD8 |>.trans HBl.out); have k711 : w11.cell? ⟨l, 7, none⟩ = some (.slice Ar n cr) := blk_cell hbl11; have f711 : w11.frozen? ⟨l, 7, none⟩ = false := blk_free hbl11))
            all_goals
              have hE := append_tail HK.out.1 HK.out.2.1 HK.out.2.2.1 hb9 ho9 hrow hg hor
              have k7E : (w11.setCell ⟨l, 7, none⟩ (.slice A' (n + 1) c')).cell? ⟨l, 7, none⟩ = some (.slice A' (n + 1) c') := blk_cell (heap_setCell_same w11 l 7 _ _ (.slice A' (n + 1) c') hbl11)
              have HE := Lib.hid hE
              clear hE hrow hg hor hbl11 k711 f711 hbl9 hbl k79 k79A hb9 ho9 HCl HNt HBl HRn k7
              go_wp2_with fail
              go_returns
              obtain ⟨h1, h2, h3, h4, h5⟩ := HE.out
              rw [← HL.out]
              have hoE := HK.out.2.2.2.1
              rw [hrq] at h4 h5
              refine ⟨by rw [HN.out.2]; push_cast; rfl, ⟨_, ⟨vs, _, rs ++ [⟨A9, c9, b⟩], h1, h2, h3, by rw [List.map_append, HC.out.2.2.2.2.2.1]; rfl, rfl⟩, h5.imp id (fun ⟨j, h1, h2⟩ => ⟨j, h1, Nat.le_trans hoE.size h2⟩)⟩, (hoE.mono (fun i h => List.mem_append_left _ h)).trans (h4.mono (fun i h => (List.mem_append.1 h).elim (fun h => by rw [List.mem_singleton.1 h]; simp) (fun h => List.mem_append_right _ h)))⟩
          · have hz2 : ¬ ((pe : Int) = 0) := by omega
            have hz3 : ((pe : Int) == 0) = false := by rw [beq_eq_false_iff_ne]; omega
            rw [if_pos hpe] at HL
            have HF := Lib.hid (⟨hlg8, hsn8, hrs8, hoE⟩ : _ ∧ _ ∧ _ ∧ _)
            clear hlg8 hsn8 hrs8 hoE ho8 hapart hrs6 hsn6 hbE
            go_wp2_with fail
            go_returns
            rw [← HL.out]
            exact ⟨rfl, ⟨q, ⟨vs, _, rs, HF.out.1, HF.out.2.1, HF.out.2.2.1, HC.out.2.2.2.2.2⟩, .inl rfl⟩, HF.out.2.2.2.mono (by simp)⟩
end Go.Proofs.Ytjfpanamkkdebaa
