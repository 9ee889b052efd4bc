/- One that goes through postings: the walk of spots. -/
import Derived.Test.YtbeejmedekgjjaaPoL
import Derived.Test.YtbeejmedekgjjaaOne
namespace Go.Proofs.Ytbeejmedekgjjaa
open Go.RowKit
set_option linter.unusedVariables false
set_option linter.unusedSimpArgs false
section
variable {P : Program} {w : World}
theorem two_news {ad : Addr} {u x : Value} (h : w.cell? ad = some u) (h1 : w.cell? (ad.add 1) = some x) : ∀ j v, [u, x][j]? = some v → w.cell? (ad.add j) = some v := by
  intro j v hj
  match j, hj with
  | 0, hj => simp at hj; subst hj; rw [Addr.add_zero']; exact h
  | 1, hj => simp at hj; subst hj; exact h1
/-- No byte among them. -/
def Clean (l : List Value) : Prop := ∀ v ∈ l, ∀ x, v ≠ .int .u8 x
theorem clean_zeros {z : Array Value} (hz : Clean z.toList) (h0 : 0 < z.size) (n : Nat) : Clean (Builtin.zeroCells z n).toList := by
  intro v hv
  unfold Builtin.zeroCells at hv
  rw [Array.toList_map, List.mem_map] at hv
  obtain ⟨i, _, rfl⟩ := hv
  have hlt : i % z.size < z.size := Nat.mod_lt _ h0
  rw [getElem!_pos z _ hlt]
  exact hz _ (Array.getElem_mem_toList hlt)
/-- An append onto a row of the call's own that has no bytes: the new row has none. -/
theorem run_append_clean (base : Nat) (t ty e : TypeId) (i : TypeInfo) (z : Value) (size bytes : Nat) (ht : P.underlying t = some (.slice e)) (hi : P.info? e = some i) (hz : i.zero = some z)
    (hsize : i.size = size) (hby : i.bytes = bytes) (hzs : z.cells.size = size) (hsz : 0 < size)
    (v : Value) (n : Nat) (xs : List Value) (hown : w.ownsRow base e size v n xs) (hnb : ∀ k, v.ownBlock = some k → NoBytes w k)
    (ad : Addr) (c : Nat) (news : List Value) (hl : news.length = 1 * size) (hnews : ∀ j u, news[j]? = some u → w.cell? (ad.add j) = some u) (h1 : ∀ u ∈ news, u.oneCell' = true)
    (hcn : Clean news) (hcz : Clean z.cells.toList) (hcx : Clean xs)
    (h63 : n + 1 ≤ maxLen) (hbytes : (n + 1) * bytes ≤ 140737488355328) (hbase : base ≤ w.heap.size) :
    ∃ g cap w', (Builtin.append_ #[t, t] ty #[v, .slice (some ad) 1 c]).run P w = .ok (.slice (some ⟨g, 0, none⟩) (n + 1) cap) w' ∧
      w'.ownsRow base e size (.slice (some ⟨g, 0, none⟩) (n + 1) cap) (n + 1) (xs ++ news) ∧ w.grownBy w' v.ownBlock ∧ (v.ownBlock = some g ∨ g = w.heap.size) ∧ g < w'.heap.size ∧ NoBytes w' g := by
  obtain ⟨g, cap, w', hr, h2, h3, h4, h5⟩ := run_append_lies (P := P) w t ty base e i z size bytes ht hi hz hsize hby hzs hsz v n xs hown ad 1 c news hl hnews h1 (by decide) h63 hbytes hbase w.heap.size rfl
  refine ⟨g, cap, w', hr, h2, h3, h4, h5, ?_⟩
  subst hsize
  subst hby
  have hml : maxLen = 9223372036854775807 := rfl
  rcases hown.2 with ⟨rfl, rfl⟩ | ⟨g0, cap0, cur, rfl, hb0, hg0, hc0, hm0, hs0, htk⟩
  · have hr2 := run_append_nil (P := P) w t ty e i z ht hi hz ad 1 c news hl hnews (by decide) (by decide) (by omega)
    rw [hr2] at hr
    injection hr with e1 e2
    injection e1 with e1
    injection e1 with e1
    injection e1 with e1
    subst e2
    subst e1
    refine ⟨_, _, _, heap_alloc_new w.drew _, fun u hu => ?_⟩
    rw [Array.toList_append, List.mem_append] at hu
    rcases hu with hu | hu
    · exact hcn u hu
    · exact clean_zeros hcz (by rw [hzs]; exact hsz) _ u hu
  · have hkn := hnb g0 rfl
    have hcl : Clean cur.toList := by
      obtain ⟨cs, tt, f, hh, hv⟩ := hkn
      rw [hg0] at hh
      injection hh with hh
      injection hh with q1 q2 q3
      subst q1
      exact hv
    by_cases hroom : n + 1 ≤ cap0
    · have hfit : n * i.size + news.length ≤ cur.size := by rw [hl, hs0, ← Nat.add_mul]; exact Nat.mul_le_mul_right _ hroom
      have hr2 := run_append_room (P := P) w t ty e i ht hi g0 n cap0 cur hg0 ad 1 c news hl hnews h1 hroom hfit
      rw [hr2] at hr
      injection hr with e1 e2
      injection e1 with e1
      injection e1 with e1
      injection e1 with e1
      subst e2
      subst e1
      refine ⟨_, _, _, setRow_heap w g0 cur _ e _ hg0, fun u hu => ?_⟩
      simp only [List.mem_append] at hu
      rcases hu with (hu | hu) | hu
      · exact hcl u (List.mem_of_mem_take hu)
      · exact hcn u hu
      · exact hcl u (List.mem_of_mem_drop hu)
    · have holds : ∀ j u, xs[j]? = some u → w.cell? ((⟨g0, 0, none⟩ : Addr).add j) = some u := hown.cells (g := g0) rfl
      have hr2 := run_append_grow (P := P) w t ty e i z ht hi hz ⟨g0, 0, none⟩ n cap0 xs hown.1 holds ad 1 c news hl hnews (by omega) (by omega) (growslice_fits (by omega) hbytes)
      rw [hr2] at hr
      injection hr with e1 e2
      injection e1 with e1
      injection e1 with e1
      injection e1 with e1
      subst e2
      subst e1
      refine ⟨_, _, _, heap_alloc_new w.drew _, fun u hu => ?_⟩
      simp only [Array.toList_append, List.mem_append] at hu
      rcases hu with (hu | hu) | hu
      · exact hcx u hu
      · exact hcn u hu
      · exact clean_zeros hcz (by rw [hzs]; exact hsz) _ u hu
theorem wpList_two {ops : Array Oper} {rest : List Oper} {o : Oper} {a : Act} {Q : Exit → Act → World → Prop} (hgd : o.guard = none) (s x : Operand) (t : TypeId)
    (ho : o.op = .call { callee := .builtin .append, args := #[s, x], argTypes := #[t, t] })
    (base : Nat) (e : TypeId) (z : Value) (bytes : Nat) (ht : P.underlying t = some (.slice e))
    (hinfo : (P.info? e).map (fun i => (i.zero, i.size, i.bytes)) = some (some z, 2, bytes)) (hzs : z.cells.size = 2)
    (v : Value) (n : Nat) (xs : List Value) (hs : a.eval s = v) (hown : w.ownsRow base e 2 v n xs) (hnb : ∀ k, v.ownBlock = some k → NoBytes w k)
    (ad : Addr) (u y : Value) (hx : a.eval x = .slice (some ad) 1 1) (hu : w.cell? ad = some u) (hy : w.cell? (ad.add 1) = some y) (h1 : u.oneCell' = true) (h2 : y.oneCell' = true)
    (hcn : Clean [u, y]) (hcz : Clean z.cells.toList) (hcx : Clean xs)
    (h63 : n + 1 ≤ maxLen) (hbytes : (n + 1) * bytes ≤ 140737488355328) (hbase : base ≤ w.heap.size)
    (h : ∀ g cap w', w'.ownsRow base e 2 (.slice (some ⟨g, 0, none⟩) (n + 1) cap) (n + 1) (xs ++ [u, y]) → w.grownBy w' v.ownBlock → (v.ownBlock = some g ∨ g = w.heap.size) → g < w'.heap.size → NoBytes w' g → wpList P ops Q rest (a.put o.dst (.slice (some ⟨g, 0, none⟩) (n + 1) cap)) w') : wpList P ops Q (o :: rest) a w := by
  refine wpList_plain hgd fun K hK => ?_
  obtain ⟨i, hi, hz, hsize, hby⟩ := info_parts hinfo
  obtain ⟨g, cap, w', hr, k2, k3, k4, k5, k6⟩ := run_append_clean (P := P) (w := w) base t o.type e i z 2 bytes ht hi hz hsize hby hzs (by decide) v n xs hown hnb ad 1 [u, y] rfl (two_news hu hy) (by intro q hq; simp only [List.mem_cons, List.mem_nil_iff, or_false] at hq; rcases hq with rfl | rfl <;> assumption) hcn hcz hcx h63 hbytes hbase
  unfold Oper.wp execOp
  simp only [ho, resolve, invoke, builtin, Sem.run_bind, Sem.run_pure, Result.andThen_ok, List.map_toArray, List.map_cons, List.map_nil, hs, hx, hr]
  exact hK _ _ (h g cap w' k2 k3 k4 k5 k6)
theorem own_grown {base : Nat} {e : TypeId} {size n : Nat} {v : Value} {xs : List Value} {w' : World} {r : Nat} (h : w.ownsRow base e size v n xs) (hg : w.grownBy w' (some r)) (hr : v.ownBlock ≠ some r) : w'.ownsRow base e size v n xs :=
  World.ownsRow.kept (row := some r) h hg (by
    cases q : v.ownBlock with
    | none => exact .inl rfl
    | some k => exact .inr (fun e2 => hr (by rw [q, e2])))
theorem NoBytes.block {k : Nat} {w' : World} (h : NoBytes w k) (hb : w'.heap[k]? = w.heap[k]?) : NoBytes w' k := by
  obtain ⟨cs, t, f, hh, hv⟩ := h
  exact ⟨cs, t, f, by rw [hb]; exact hh, hv⟩
theorem RdS.apartOpt {w' : World} {g : Nat} {row : Option Nat} {o : Option (List UInt8)} (h : RdS w g o) (hk : ∀ k, row = some k → NoBytes w k ∧ g ≠ k) (hg : w.grownBy w' row) : RdS w' g o := by
  cases row with
  | none => exact h.below ⟨hg.os, hg.tape, hg.output, hg.size, fun k hk => hg.block k hk (by simp)⟩
  | some k => exact h.apart (hk k rfl).1 (hk k rfl).2 hg
theorem own_only {base : Nat} {e : TypeId} {size n : Nat} {v : Value} {xs : List Value} {w' : World} {S : List Nat} (h : w.ownsRow base e size v n xs) (hg : Only w w' S) (hr : ∀ k, v.ownBlock = some k → k ∉ S) : w'.ownsRow base e size v n xs := by
  refine ⟨h.1, ?_⟩
  rcases h.2 with h0 | ⟨g, cap, cur, rfl, hb, hh, r⟩
  · exact .inl h0
  · exact .inr ⟨g, cap, cur, rfl, hb, (hg.block g (blk_lt hh) (hr g rfl)).trans hh, r⟩
theorem add_blk (a : Addr) (k : Nat) : (a.add k).block = a.block := by
  unfold Addr.add
  split <;> rfl
theorem lies_only {A : Option Addr} {vs : List Value} {w' : World} {S : List Nat} (h : Lies w A vs) (hg : Only w w' S) (hr : ∀ a, A = some a → a.block ∉ S) : Lies w' A vs := by
  intro k v hk
  obtain ⟨a, rfl, hc⟩ := h k v hk
  refine ⟨a, rfl, ?_⟩
  have hb := hg.block (a.add k).block (World.block_lt_of_cell? _ (a.add k) hc) (by rw [add_blk]; exact hr a rfl)
  rw [World.cell?_of_block (a := a.add k) hb]
  exact hc
theorem LSpot.In.only {s : LSpot} {w' : World} {S : List Nat} (h : s.In w) (hg : Only w w' S) (hr : ∀ a, s.A = some a → a.block ∉ S) : s.In w' :=
  ⟨lies_only h.li hg hr, h.c, h.m, h.z, h.f⟩
theorem Only.past {a b c : World} {r : Nat} {S : List Nat} (h : a.grownBy b (some r)) (k : Only b c S) (hS : ∀ i ∈ S, i < a.heap.size → i = r) : a.grownBy c (some r) :=
  ⟨k.os.trans h.os, k.tape.trans h.tape, k.output.trans h.output, Nat.le_trans h.size k.size, fun i hi hne =>
    (k.block i (Nat.lt_of_lt_of_le hi h.size) (fun hm => hne (by rw [hS i hm hi]))).trans (h.block i hi hne)⟩
theorem clean_pair (f : Int) (A : Option Addr) (n c : Nat) : Clean [.int .i64 f, .slice A n c] := by
  intro v hv x
  simp only [List.mem_cons, List.mem_nil_iff, or_false] at hv
  rcases hv with rfl | rfl <;> simp
theorem clean_sk (ls : List LSpot) : Clean (ls.flatMap sk) := by
  intro v hv x
  obtain ⟨s, _, hs⟩ := List.mem_flatMap.1 hv
  simp only [sk, List.mem_cons, List.mem_nil_iff, or_false] at hs
  rcases hs with rfl | rfl <;> simp
end
theorem info_spots : (Try.prog.info? 46).map (fun i => (i.zero, i.size, i.bytes)) = some (some (.agg #[.int .i64 0, .slice none 0 0]), 2, 32) := by kernel_rfl
theorem info_posts : (Try.prog.info? 40).map (fun i => (i.zero, i.size, i.bytes)) = some (some (.agg #[.int .i64 0, .slice none 0 0]), 2, 32) := by kernel_rfl
/-- Where a spot's row lies: from one block on, below the heap's end, and not in another row's block. -/
def LSpot.From (s : LSpot) (base : Nat) (w : World) (V : Option Nat) : Prop := ∀ a, s.A = some a → base ≤ a.block ∧ a.block < w.heap.size ∧ V ≠ some a.block
theorem LSpot.From.next {s : LSpot} {base : Nat} {w w' : World} {V V' : Option Nat} {g : Nat} (h : s.From base w V) (hs : w.heap.size ≤ w'.heap.size) (hg : V = some g ∨ w.heap.size ≤ g) (hV' : V' = some g) : s.From base w' V' := by
  intro a ha
  obtain ⟨h1, h2, h3⟩ := h a ha
  refine ⟨h1, Nat.lt_of_lt_of_le h2 hs, ?_⟩
  subst hV'
  rcases hg with rfl | hg
  · exact h3
  · intro e; injection e with e; omega
theorem LSpot.From.same {s : LSpot} {base : Nat} {w w' : World} {V : Option Nat} (h : s.From base w V) (hs : w.heap.size ≤ w'.heap.size) : s.From base w' V :=
  fun a ha => ⟨(h a ha).1, Nat.lt_of_lt_of_le (h a ha).2.1 hs, (h a ha).2.2⟩
theorem LSpot.In.grown {s : LSpot} {w w' : World} {row : Option Nat} (h : s.In w) (hg : w.grownBy w' row) (hr : ∀ a, s.A = some a → row ≠ some a.block) : s.In w' :=
  ⟨h.li.grown hg (fun a ha e => hr a ha e.symm), h.c, h.m, h.z, h.f⟩
/-- What a reader's spots are, in memory. -/
structure SpotsIn (w : World) (base : Nat) (A : Option Addr) (c : Nat) (ls : List LSpot) : Prop where
  li : Lies w A (ls.flatMap sk)
  c : ls.length ≤ c
  m : ls.length ≤ 4
  s : ∀ s ∈ ls, s.In w
  a : ∀ a, A = some a → base ≤ a.block ∧ a.block < w.heap.size
  sa : ∀ s ∈ ls, ∀ a, s.A = some a → base ≤ a.block ∧ a.block < w.heap.size
theorem SpotsIn.of {w : World} {base : Nat} {o : Value} {ls : List LSpot} (ho : w.ownsRow base 46 2 o ls.length (ls.flatMap sk)) (h4 : ls.length ≤ 4) (hs : ∀ s ∈ ls, s.In w ∧ s.From base w o.ownBlock) :
    ∃ A c, o = .slice A ls.length c ∧ SpotsIn w base A c ls := by
  obtain ⟨A, c, rfl, hc⟩ := own_form ho
  refine ⟨A, c, rfl, Lies.of_own ho, hc, h4, fun s hm => (hs s hm).1, ?_, fun s hm a ha => ⟨((hs s hm).2 a ha).1, ((hs s hm).2 a ha).2.1⟩⟩
  intro a ha
  rcases ho.2 with ⟨e, _⟩ | ⟨g, cap, cur, e, hb, hg, _⟩
  · injection e with e; rw [e] at ha; cases ha
  · injection e with e
    rw [e] at ha
    cases ha
    exact ⟨hb, blk_lt hg⟩
theorem spotsS_none (n : Nat) : spotsS n none = ([], none) := by cases n <;> rfl
theorem spotsS_some (n : Nat) (bs : List UInt8) : spotsS (n + 1) (some bs) = ((((numS 4 (some bs)).1 : Int), (risingS 60 59 (numS 4 (some bs)).2).1) :: (spotsS n (risingS 60 59 (numS 4 (some bs)).2).2).1, (spotsS n (risingS 60 59 (numS 4 (some bs)).2).2).2) := rfl
theorem risingS_in (o : Option (List UInt8)) : (risingS 60 59 o).1.length ≤ 60 ∧ ∀ z ∈ (risingS 60 59 o).1, I64 z := by
  cases o with
  | none => exact ⟨by simp [risingS], fun z hz => by simp [risingS] at hz⟩
  | some bs =>
    cases hn : risingP 60 59 bs with
    | ok l r =>
      rw [risingS_ok hn]
      obtain ⟨h1, h2, _⟩ := risingP_ok hn
      exact ⟨by simp only; omega, fun z hz => by have := h2 z hz; unfold I64; omega⟩
    | no e => rw [risingS_no hn]; exact ⟨by simp, fun z hz => by simp at hz⟩
set_option maxRecDepth 100000 in
set_option maxHeartbeats 3200000 in
theorem spots_any (t g r : Nat) (it : It) (w : World) (h : ItAt w t g r it) (hl : OLen it.run) :
    Calls Try.prog 53 #[.pointer (some ⟨t, 0, none⟩)] w fun e w' => ∃ A c ls, e = .returned (.slice A ls.length c) ∧ SpotsIn w' w.heap.size A c ls ∧ ls.map LSpot.p = (spotsS (numS 4 it.run).1 (numS 4 it.run).2).1 ∧ RdS w' r (spotsS (numS 4 it.run).1 (numS 4 it.run).2).2 ∧ w.grownBy w' (some r) := by
  have HN := Lib.hid (snum r 4 it.run w h.rr hl)
  have hx := numS_le 4 it.run
  have hl1 := numS_len (most := 4) hl
  have hblk := h.blk
  have k1 : w.cell? ⟨t, 1, none⟩ = some (.pointer (some ⟨r, 0, none⟩)) := blk_cell hblk
  have htr := h.tr
  have hlt := blk_lt hblk
  have hltr := h.lt.2.2
  generalize numS 4 it.run = N at HN hx hl1
  obtain ⟨n0, o0⟩ := N
  simp only at HN hx hl1
  clear hblk h hl
  obtain ⟨TT, hTT⟩ : ∃ TT, spotsS n0 o0 = TT := ⟨_, rfl⟩
  have HT := Lib.hid hTT
  rw [hTT]
  clear hTT
  go_enter Try.func53, Try.ntmps53
  go_wp2_with (go_at_call 34; refine HN.out.mono ?_; rintro e1 w1 ⟨rfl, hr1, hg1⟩)
  have h04 : n0 ≤ 4 := by omega
  go_loopg [3, 4] n0 (fun rr o i wr => ∃ (ls : List LSpot) (q : Option (List UInt8)), i = .int .i64 (rr : Int) ∧ ls.length + rr = n0 ∧ wr.ownsRow w.heap.size 46 2 o ls.length (ls.flatMap sk) ∧ (∀ s ∈ ls, s.In wr ∧ s.From w.heap.size wr o.ownBlock) ∧ RdS wr r q ∧ (∀ k, o.ownBlock = some k → NoBytes wr k) ∧ OLen q ∧ ls.map LSpot.p ++ (spotsS rr q).1 = TT.1 ∧ (spotsS rr q).2 = TT.2 ∧ w.grownBy wr (some r))
  case atStart => exact ⟨[], o0, rfl, by simp, World.ownsRow_nil _ _ _ _, by simp, hr1, by intro k hk; simp [Value.ownBlock] at hk, hl1, by rw [HT.out]; rfl, by rw [HT.out], hg1⟩
  case round =>
    obtain ⟨ls, q, rfl, hrl, hown, hsp, hrq, hnb, hlq, hT1, hT2, hgq⟩ := hrel
    have HGQ := Lib.hid hgq
    have hb := hgq.block t hlt (by simpa using htr)
    have k1r : wr.cell? ⟨t, 1, none⟩ = some (.pointer (some ⟨r, 0, none⟩)) := by rw [← k1]; exact hgq.cell k1 (by simpa using htr) |>.trans k1.symm
    have fin : ∀ (A : Option Addr) (c : Nat), u3 = .slice A ls.length c → SpotsIn wr w.heap.size A c ls → (spotsS gk q).1 = [] → ∀ q', (spotsS gk q).2 = q' → RdS wr r q' → ∃ A c ls, Ending.returned u3 = .returned (.slice A ls.length c) ∧ SpotsIn wr w.heap.size A c ls ∧ ls.map LSpot.p = TT.1 ∧ RdS wr r TT.2 ∧ w.grownBy wr (some r) := by
      intro A c e hS h1 q' h2 hr
      rw [h1, List.append_nil] at hT1
      rw [h2] at hT2
      exact ⟨A, c, ls, by rw [e], hS, hT1, by rw [← hT2]; exact hr, hgq⟩
    have HF := Lib.hid fin
    obtain ⟨Au, cu, eu, hcu⟩ := own_form hown
    clear fin HT hb hgq HN hr1 hg1 hl1
    obtain ⟨K, hK⟩ : ∃ K : Int, (gk : Int) = K := ⟨_, rfl⟩
    rw [hK]
    cases gk with
    | zero =>
      obtain ⟨A3, c3, rfl, hS3⟩ := SpotsIn.of hown (by omega) hsp
      have HF2 := Lib.hid (HF.out A3 c3 rfl hS3 rfl q rfl hrq)
      obtain rfl : K = 0 := by rw [← hK]; rfl
      clear HF hK hown hsp hT1 hT2 hS3 hrq hlq
      go_wp2
      go_returns
      exact HF2.out
    | succ m =>
      have hK0 : K > 0 := by omega
      have hKw : IntKind.i64.wrap (K - 1) = K - 1 := by have : K ≤ 4 := by omega
                                                        go_arith
      have HK := Lib.hid (show K - 1 = (m : Int) by omega)
      have HE := Lib.hid (serr r q wr hrq)
      cases q with
      | none =>
        obtain ⟨A3, c3, rfl, hS3⟩ := SpotsIn.of hown (by omega) hsp
        have HF2 := Lib.hid (HF.out A3 c3 rfl hS3 (by rw [spotsS_none]) none (by rw [spotsS_none]) hrq)
        clear HF hK hown hsp hT1 hT2 hS3 hrq hlq
        go_wp2_with (go_at_call 39; refine HE.out.mono ?_; rintro e1 w1 ⟨c, rfl, _, hc, rfl⟩
                     have hc0 := hc (by first | rfl | trivial)
                     have hcq : ((c : Int) == 0) = false := beq_eq_false_iff_ne.mpr (by omega))
        go_returns
        exact HF2.out
      | some bs =>
        have hl4 : ls.length + 1 ≤ 4 := by omega
        have HN2 := Lib.hid (snum r 4 (some bs) wr hrq hlq)
        have hx2 := numS_le 4 (some bs)
        have hol2 := numS_len (most := 4) hlq
        rw [spotsS_some] at hT1 hT2
        generalize numS 4 (some bs) = N2 at HN2 hx2 hol2 hT1 hT2
        obtain ⟨f2, o2⟩ := N2
        simp only at HN2 hx2 hol2 hT1 hT2
        have hin := risingS_in o2
        have hol3 := risingS_len (many := 60) (top := 59) hol2
        have HRi := Lib.hid (fun w' hr' => srising r 60 59 o2 w' (by omega) (by omega) (by omega) hr' hol2)
        generalize risingS 60 59 o2 = R2 at HRi hin hol3 hT1 hT2
        obtain ⟨l2, o3⟩ := R2
        simp only at HRi hin hol3 hT1 hT2
        have HT1 := Lib.hid hT1
        have HT2 := Lib.hid hT2
        clear HF hK hT1 hT2 hrq hlq
        go_wp2_with (first
          | (go_at_call 39; refine HE.out.mono ?_; rintro e1 w1 ⟨c, rfl, hc, _, rfl⟩
             obtain rfl := hc (by first | rfl | trivial)))
        go_at_call 34
        refine HN2.out.mono ?_
        rintro e2 w2 ⟨rfl, hr2, hg2⟩
        have hX2 : r < w2.heap.size := hr2.lt
        have k1A : (w2.alloc (.cells #[.int .i64 f2, .slice none 0 0] 46)).cell? ⟨t, 1, none⟩ = some (.pointer (some ⟨r, 0, none⟩)) := by
          have q : w2.cell? ⟨t, 1, none⟩ = some (.pointer (some ⟨r, 0, none⟩)) := hg2.cell k1r (by intro e; injection e with e; exact htr e)
          rw [World.cell?_alloc_lt _ _ _ (World.block_lt_of_cell? _ _ q)]; exact q
        have hrA : RdS (w2.alloc (.cells #[.int .i64 f2, .slice none 0 0] 46)) r o2 := hr2.below ((Below.refl w2.heap.size w2).alloc (Nat.le_refl _) _)
        have HRiA := Lib.hid (HRi.out _ hrA)
        go_wp2_with fail
        go_at_call 58
        refine HRiA.out.mono ?_
        rintro e3 w3 ⟨v3, rfl, hv3, hr3, hg3⟩
        obtain ⟨A3, c3, rfl, hc3, _⟩ := OI.form hv3
        have hX : w3.heap[w2.heap.size]? = some (.cells #[.int .i64 f2, .slice none 0 0] 46 (0, 0)) := by rw [hg3.block w2.heap.size (by simp) (by intro e; injection e with e; omega)]; exact heap_alloc_new _ _
        have qX0 : w3.cell? ⟨w2.heap.size, 0, none⟩ = some (.int .i64 f2) := blk_cell hX
        have qX1 : w3.cell? ⟨w2.heap.size, 1, none⟩ = some (.slice none 0 0) := blk_cell hX
        have qXf : w3.frozen? ⟨w2.heap.size, 1, none⟩ = false := blk_free hX
        have hXS : (w3.setCell ⟨w2.heap.size, 1, none⟩ (.slice A3 l2.length c3)).heap[w2.heap.size]? = some (.cells #[.int .i64 f2, .slice A3 l2.length c3] 46 (0, 0)) := by rw [heap_setCell_same w3 _ 1 _ _ _ hX]; rfl
        have qS0 : (w3.setCell ⟨w2.heap.size, 1, none⟩ (.slice A3 l2.length c3)).cell? ⟨w2.heap.size, 0, none⟩ = some (.int .i64 f2) := blk_cell hXS
        have qS1 : (w3.setCell ⟨w2.heap.size, 1, none⟩ (.slice A3 l2.length c3)).cell? ⟨w2.heap.size, 1, none⟩ = some (.slice A3 l2.length c3) := blk_cell hXS
        subst eu
        have hr3X : RdS (w3.setCell ⟨w2.heap.size, 1, none⟩ (.slice A3 l2.length c3)) r o3 := hr3.apart ⟨_, _, _, hX, by simp⟩ (by omega) (Lib.grownBy_setCell w3 w2.heap.size 1 _)
        have hs2 := hg2.size
        have hlt3 := World.ownsRow.lt hv3
        have hli3 : Lies w3 A3 (l2.map (Value.int .i64)) := Lies.of_own hv3
        have hO1 : Only wr w3 [r, w2.heap.size] := (((Only.of_grown hg2).mono (fun i h => by simp at h; simp [h])).trans (Only.of_below ((Below.refl w2.heap.size w2).alloc (Nat.le_refl _) _) _)).trans ((Only.of_grown hg3).mono (fun i h => by simp at h; simp [h]))
        have hOX : Only w3 (w3.setCell ⟨w2.heap.size, 1, none⟩ (.slice A3 l2.length c3)) [w2.heap.size] := Only.of_grown (Lib.grownBy_setCell w3 w2.heap.size 1 _)
        have HSZ := Lib.hid (show (w3.setCell ⟨w2.heap.size, 1, none⟩ (.slice A3 l2.length c3)).heap.size = w3.heap.size by simp)
        go_upto_region 7 with fail
        generalize w3.setCell ⟨w2.heap.size, 1, none⟩ (.slice A3 l2.length c3) = wX at *
        clear hg3 hX qX0 qX1 qXf hr3 hv3 k1A HRiA hrA hr2
        have hO2 := hO1.trans (hOX.mono (T := [r, w2.heap.size]) (fun i h => by simp at h; simp [h]))
        have hlw := HGQ.out.size
        have hno : ∀ k, (Value.slice Au ls.length cu).ownBlock = some k → k ∉ [r, w2.heap.size] := by
          intro k hk
          have := World.ownsRow.lt hown k hk
          simp only [List.mem_cons, List.mem_nil_iff, or_false, not_or]
          omega
        have hownX := own_only hown hO2 hno
        have hnbX : ∀ k, (Value.slice Au ls.length cu).ownBlock = some k → NoBytes wX k := fun k hk => (hnb k hk).block (hO2.block k (World.ownsRow.lt hown k hk).2 (hno k hk))
        have hownB := World.ownsRow.alloc hownX (.cells #[.int .i64 f2, .slice A3 l2.length c3] 46)
        have hnbB : ∀ k, (Value.slice Au ls.length cu).ownBlock = some k → NoBytes (wX.alloc (.cells #[.int .i64 f2, .slice A3 l2.length c3] 46)) k := fun k hk => (hnbX k hk).block (heap_alloc_old wX _ (World.ownsRow.lt hownX k hk).2)
        have hB := heap_alloc_new wX (.cells #[.int .i64 f2, .slice A3 l2.length c3] 46)
        have qB0 : (wX.alloc (.cells #[.int .i64 f2, .slice A3 l2.length c3] 46)).cell? ⟨wX.heap.size, 0, none⟩ = some (.int .i64 f2) := blk_cell hB
        have qB1 : (wX.alloc (.cells #[.int .i64 f2, .slice A3 l2.length c3] 46)).cell? ⟨wX.heap.size, 1, none⟩ = some (.slice A3 l2.length c3) := blk_cell hB
        have hbX : w.heap.size ≤ (wX.alloc (.cells #[.int .i64 f2, .slice A3 l2.length c3] 46)).heap.size := by have := hO2.size; simp; omega
        have hrB := hr3X.below ((Below.refl wX.heap.size wX).alloc (Nat.le_refl _) (.cells #[.int .i64 f2, .slice A3 l2.length c3] 46))
        have HLL : Hid (maxLen = 9223372036854775807) := rfl
        go_wp2_with (at_builtin; go_loud (refine wpList_two rfl _ _ 38 rfl w.heap.size 46 _ 32 Try.underlying38 info_spots rfl (Value.slice Au ls.length cu) ls.length (ls.flatMap sk) rfl hownB hnbB ⟨wX.heap.size, 0, none⟩ (.int .i64 f2) (.slice A3 l2.length c3) rfl qB0 qB1 rfl rfl (clean_pair _ _ _ _) (clean_pair 0 none 0 0) (clean_sk ls) (by rw [HLL.out]; omega) (by omega) hbX ?_; intro g4 cap4 w4 hown4 hg4 hat4 hlt4 hnb4))
        clear hownB hnbB hB qB0 qB1 hownX hnbX
        have hBs : (wX.alloc (.cells #[.int .i64 f2, .slice A3 l2.length c3] 46)).heap.size = w3.heap.size + 1 := by rw [← HSZ.out]; simp
        have hAs : (w2.alloc (.cells #[.int .i64 f2, .slice none 0 0] 46)).heap.size = w2.heap.size + 1 := by simp
        have hs4 := hg4.size
        have hs3 := hO1.size
        rw [hBs] at hs4 hat4
        rw [hAs] at hlt3
        have hal := (Below.refl wX.heap.size wX).alloc (Nat.le_refl _) (.cells #[.int .i64 f2, .slice A3 l2.length c3] 46)
        have hOp : Only (wX.alloc (.cells #[.int .i64 f2, .slice A3 l2.length c3] 46)) w4 (Value.slice Au ls.length cu).ownBlock.toList := ⟨hg4.os, hg4.tape, hg4.output, hg4.size, fun i hi hn => hg4.block i hi (fun e => hn (by rw [← e]; simp))⟩
        go_roundg m
        case measure => omega
        case rel =>
          refine ⟨ls ++ [⟨f2, A3, c3, l2⟩], o3, by rw [HK.out], by simp; omega, ?_, ?_, ?_, ?_, hol3, ?_, HT2.out, ?_⟩
          · have e1 : (ls ++ [(⟨f2, A3, c3, l2⟩ : LSpot)]).length = ls.length + 1 := by simp
            have e2 : (ls ++ [(⟨f2, A3, c3, l2⟩ : LSpot)]).flatMap sk = ls.flatMap sk ++ [.int .i64 f2, .slice A3 l2.length c3] := by simp [List.flatMap_append, sk]
            rw [e1, e2]
            exact hown4
          · intro s hs
            rcases List.mem_append.1 hs with hs | hs
            · obtain ⟨hi, hf⟩ := hsp s hs
              have hoff : ∀ a, s.A = some a → a.block ∉ [r, w2.heap.size] := by
                intro a ha
                have := hf a ha
                simp only [List.mem_cons, List.mem_nil_iff, or_false, not_or]
                omega
              refine ⟨((hi.only hO2 hoff).below hal).grown hg4 (fun a ha => (hf a ha).2.2), ?_⟩
              exact (hf.same (w' := wX.alloc (.cells #[.int .i64 f2, .slice A3 l2.length c3] 46)) (by rw [hBs]; omega)).next (g := g4) hg4.size (by rw [hBs]; rcases hat4 with h | h; exact .inl h; exact .inr (by omega)) rfl
            · cases List.mem_singleton.1 hs
              have hA3 : ∀ a, A3 = some a → w2.heap.size + 1 ≤ a.block ∧ a.block < w3.heap.size := fun a ha => hlt3 a.block (by rw [ha]; rfl)
              have hVk : ∀ k, (Value.slice Au ls.length cu).ownBlock = some k → k < wr.heap.size := fun k hk => (World.ownsRow.lt hown k hk).2
              refine ⟨⟨((lies_only hli3 hOX (fun a ha => by have := hA3 a ha; simp; omega)).below hal).grown hg4 (fun a ha e => by have := hA3 a ha; have := hVk _ e.symm; omega), hc3, by have := hin.1; show l2.length ≤ _; omega, hin.2, by unfold I64; show _ ≤ (f2 : Int) ∧ (f2 : Int) ≤ _; omega⟩, ?_⟩
              intro a ha
              have h3 := hA3 a ha
              refine ⟨by omega, by omega, ?_⟩
              intro e
              injection e with e
              have e : g4 = a.block := e
              rcases hat4 with h | h
              · have := hVk _ h; omega
              · omega
          · exact hrB.apartOpt (fun k hk => ⟨(hnb k hk).block ((heap_alloc_old wX _ (by have := (World.ownsRow.lt hown k hk).2; have := hO2.size; omega)).trans (hO2.block k (World.ownsRow.lt hown k hk).2 (hno k hk))), by have := (World.ownsRow.lt hown k hk).1; omega⟩) hg4
          · intro k hk
            cases hk
            exact hnb4
          · have := HT1.out
            rw [List.map_append, List.append_assoc]
            exact this
          · refine Only.past HGQ.out ((hO2.trans (Only.of_below hal _)).mono (T := [r, w2.heap.size] ++ (Value.slice Au ls.length cu).ownBlock.toList) (fun i h => List.mem_append_left _ h) |>.trans (hOp.mono (fun i h => List.mem_append_right _ h))) ?_
            intro i hi hlti
            rcases List.mem_append.1 hi with hi | hi
            · simp only [List.mem_cons, List.mem_nil_iff, or_false] at hi
              rcases hi with hi | hi
              · exact hi
              · omega
            · have := World.ownsRow.lt hown i (by simpa using hi)
              omega
end Go.Proofs.Ytbeejmedekgjjaa
