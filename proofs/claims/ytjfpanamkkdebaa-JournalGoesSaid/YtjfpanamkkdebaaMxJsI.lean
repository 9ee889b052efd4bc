/- JournalGoes: the walk. -/
import Derived.Test.YtjfpanamkkdebaaMxJsG
import Derived.Deep.CutBlock
namespace Go.Proofs.Ytjfpanamkkdebaa
open Go.RowKit
set_option linter.unusedVariables false
set_option linter.unusedSimpArgs false
/-- One more record, or not: what is found behind a crash. -/
theorem crash_one {K : Nat} {L : Lg} (h : LInv K L) (hK : K + 1 < 256) (b : List UInt8) :
    ∀ keep torn cut, ∃ hf ep sl, Clean (K + 1) ((appendP L b).2.2.d.crashed keep torn cut) hf ep sl ∧ Had L.snap (L.recs ++ [b]) L.su ((appendP L b).2.2.d.crashed keep torn cut).hasP := by
  intro keep torn cut
  have hold := h.had (by omega) keep torn cut
  have more : ∀ l, Had L.snap L.recs L.su l → Had L.snap (L.recs ++ [b]) L.su l := by
    rintro l ⟨k, h1, h2, h3⟩
    exact ⟨k, h1, by rw [List.length_append]; omega, by rw [h3, List.take_append_of_le_length h2]⟩
  by_cases hbb : b.length = 0 ∨ 262144 < b.length
  · rw [append_bad h.alive hbb]
    exact ⟨_, _, _, hold.1.mono (by omega), more _ hold.2⟩
  · cases hg : growP L.pg L.bs.length (framedP b).length L.d.room with
    | false =>
      rw [append_full h.alive hbb hg]
      exact ⟨_, _, _, hold.1.mono (by omega), more _ hold.2⟩
    | true =>
      have hs := (append_step h hK b hbb hg).2.2.2 keep torn cut
      exact ⟨_, _, _, hs.1, hs.2⟩
/-- A record more, without a fuse: it is there, or there is no room. -/
theorem append_free {K : Nat} {L : Lg} (h : LInv K L) (hK : K + 1 < 256) (hb : L.d.bound = false) (b : List UInt8) (h0 : b.length ≠ 0) (hl : b.length ≤ 262144) :
    ((appendP L b).2.1 = 8 ∧ (appendP L b).2.2 = L) ∨ ((appendP L b).2.1 = 0 ∧ LInv (K + 1) (appendP L b).2.2 ∧ (appendP L b).2.2.recs = L.recs ++ [b] ∧ (appendP L b).2.2.snap = L.snap ∧ (appendP L b).2.2.d.bound = false) := by
  have hbb : ¬ (b.length = 0 ∨ 262144 < b.length) := by omega
  cases hg : growP L.pg L.bs.length (framedP b).length L.d.room with
  | false =>
    rw [append_full h.alive hbb hg]
    exact .inl ⟨rfl, rfl⟩
  | true =>
    obtain ⟨⟨e0, _, e1, e2, e3, _⟩ | ⟨_, e⟩, e4, _⟩ := append_step h hK b hbb hg
    · exact .inr ⟨e0, e1, e2, e3, by rw [e4]; exact hb⟩
    · rw [hb] at e; cases e
/-- What is wanted: records that lie in rows of their own, or came in. -/
def Wnt (w0 w : World) (r : RSl) : Prop := OB w 0 r.v r.bs ∨ RB w0 r.A r.bs
theorem Wnt.rb {w0 w : World} {r : RSl} (h : Wnt w0 w r) (hb : Below w0.heap.size w0 w) : RB w r.A r.bs := by
  rcases h with h | h
  · exact RB.of_own h
  · exact h.below hb
theorem Wnt.ours {w0 w w' : World} {l g k m c : Nat} {q : Option Nat} {L : Lg} {r : RSl} (h : Wnt w0 w r) (hj : JLog w l g k m c q L) (ho : Only w w' ([l, g, k, m] ++ q.toList)) : Wnt w0 w' r := h.imp (fun h => OB.ours h hj ho) id
theorem Wnt.below {w0 w w' : World} {r : RSl} (h : Wnt w0 w r) (hb : Below w.heap.size w w') : Wnt w0 w' r := h.imp (fun h => OB.below h hb) id
/-- A log, over blocks that hold no bytes, not its row, not its own. -/
theorem JLog.only2 {w w' : World} {l g k m c : Nat} {q : Option Nat} {L : Lg} {S : List Nat} (h : JLog w l g k m c q L) (ho : Only w w' S) (hl : l ∉ S) (hg : g ∉ S) (hk : k ∉ S) (hm : m ∉ S) (hS : ∀ j cs f, w.heap[j]? = some (.cells cs 5 f) → j ∉ S) (hq : ∀ j, q = some j → j ∉ S) : JLog w' l g k m c q L := by
  obtain ⟨vs, rv, rs, hlg, hs, hr, he, hqq⟩ := h
  obtain ⟨bv, hc, hb⟩ := hlg.cells
  have ob : ∀ v b, OB w 0 v b → OB w' 0 v b := fun v b h => own_only h ho (fun j hj => by obtain ⟨cs, hc⟩ := own_blk h j hj; exact hS _ _ _ hc)
  exact ⟨vs, rv, rs, ⟨⟨bv, ⟨(ho.block l (blk_lt hc.blk) hl).trans hc.blk⟩, ob _ _ hb⟩, hlg.dk.only ho hg hk hm, hlg.lg, hlg.lk, hlg.lm⟩, ob _ _ hs, ⟨hr.1.keep ho (fun j hj => hq j (by rw [← hqq, hj])), fun y hy => ob _ _ (hr.2 y hy)⟩, he, hqq⟩
theorem wpList_one_g {P : Program} {w : World} {ops : Array Oper} {rest : List Oper} {o : Oper} {a : Act} {Q : Exit → Act → World → Prop} (hgd : Region.wanted o (yielded ops a.tmps) = true) (s x : Operand) (t : TypeId)
    (ho : o.op = .call { callee := .builtin .append, args := #[s, x], argTypes := #[t, t] })
    (base : Nat) (e : TypeId) (z : Value) (bytes : Nat) (ht : P.underlying t = some (.slice e))
    (hinfo : (P.info? e).map (fun i => (i.zero, i.size, i.bytes)) = some (some z, 1, bytes)) (hzs : z.cells.size = 1)
    (v : Value) (n : Nat) (xs : List Value) (hs : a.eval s = v) (hown : w.ownsRow base e 1 v n xs)
    (ad : Addr) (u : Value) (hx : a.eval x = .slice (some ad) 1 1) (hu : w.cell? ad = some u) (h1 : u.oneCell' = true)
    (h63 : n + 1 ≤ maxLen) (hbytes : (n + 1) * bytes ≤ 140737488355328) (hbase : base ≤ w.heap.size)
    (h : ∀ g cap w', w'.ownsRow base e 1 (.slice (some ⟨g, 0, none⟩) (n + 1) cap) (n + 1) (xs ++ [u]) → w.grownBy w' v.ownBlock → (v.ownBlock = some g ∨ g = w.heap.size) → g < w'.heap.size → wpList P ops Q rest (a.put o.dst (.slice (some ⟨g, 0, none⟩) (n + 1) cap)) w') : wpList P ops Q (o :: rest) a w := by
  obtain ⟨i, hi, hz, hsize, hby⟩ := info_parts hinfo
  refine wpList_step fun K hK => ?_
  rw [if_pos hgd]
  exact wp_append_lies w s x t ho base e i z 1 bytes ht hi hz hsize hby hzs (by decide) v n xs hs hown ad 1 1 [u] hx rfl (one_news hu) (by intro q hq; cases List.mem_singleton.1 hq; exact h1) (by decide) h63 hbytes hbase _ rfl fun g cap w' h2 h3 h4 h5 => hK _ _ (h g cap w' h2 h3 h4 h5)
theorem own_disk {w w' : World} {base n : Nat} {e : TypeId} {v : Value} {xs : List Value} {g k m c : Nat} {d : Dsk} (h : w.ownsRow base e 1 v n xs) (hd : DkAt w g k m c d) (h1 : e ≠ 81) (h2 : e ≠ 9) (ho : Only w w' [g, k, m]) : w'.ownsRow base e 1 v n xs :=
  own_only h ho (fun j hj => by obtain ⟨cs, hc⟩ := own_blk h j hj; exact hd.apart hc h1 h2)
def loose : List UInt8 := [108, 111, 111, 115, 101]
/-- A log that goes on, and what is wanted of it. -/
structure Gs (B Bw : Nat) (w0 W0 w : World) (p l y g k m c r : Nat) (q : Option Nat) (L : Lg) (v : Value) (ws : List RSl) (R : List (List UInt8)) : Prop where
  blk : w.heap[p]? = some (.cells #[.pointer (some ⟨g, 0, none⟩), .pointer (some ⟨l, 0, none⟩), .pointer (some ⟨r, 0, none⟩)] 52 (0, 0))
  log : JLog w y g k m c q L
  row : w.ownsRow Bw 29 1 v ws.length (ws.map RSl.v)
  wnt : ∀ z ∈ ws, Wnt w0 w z
  eq : ws.map RSl.bs = R
  apart : ∀ j, v.ownBlock = some j → q ≠ some j
  ge : ∀ i ∈ [y, g, k, m] ++ q.toList, B ≤ i
  below : Below B W0 w
  size : Bw ≤ w.heap.size
  rowge : B ≤ Bw
theorem Gs.notS {B Bw : Nat} {w0 W0 w : World} {p l y g k m c r : Nat} {q : Option Nat} {L : Lg} {v : Value} {ws : List RSl} {R : List (List UInt8)} (h : Gs B Bw w0 W0 w p l y g k m c r q L v ws R) : ∀ j, v.ownBlock = some j → j ∉ [y, g, k, m] ++ q.toList := fun j hj => by
  obtain ⟨cs, hc⟩ := own_blk h.row j hj
  exact h.log.notS hc (by decide) (by decide) (by decide) (fun _ => h.apart j hj)
theorem Gs.ours {B Bw : Nat} {w0 W0 w w' : World} {p l y g k m c r : Nat} {q q' : Option Nat} {L L' : Lg} {v : Value} {ws : List RSl} {R : List (List UInt8)} (h : Gs B Bw w0 W0 w p l y g k m c r q L v ws R) (ho : Only w w' ([y, g, k, m] ++ q.toList)) (hj : JLog w' y g k m c q' L') (hq : q' = q ∨ ∃ j, q' = some j ∧ w.heap.size ≤ j) : Gs B Bw w0 W0 w' p l y g k m c r q' L' v ws R := by
  have hB : B ≤ w.heap.size := Nat.le_trans h.rowge h.size
  refine ⟨(ho.block p (blk_lt h.blk) (h.log.notS h.blk (by decide) (by decide) (by decide) (fun e => absurd e (by decide)))).trans h.blk, hj, own_only h.row ho h.notS, fun z hz => (h.wnt z hz).ours h.log ho, h.eq, ?_, ?_, h.below.trans (ho.below h.ge hB), Nat.le_trans h.size ho.size, h.rowge⟩
  · intro j hv hqq
    rcases hq with rfl | ⟨i, rfl, hi⟩
    · exact h.apart j hv hqq
    · injection hqq with hqq
      have := (World.ownsRow.lt h.row j hv).2
      omega
  · intro i hi
    rcases List.mem_append.1 hi with hi | hi
    · exact h.ge i (List.mem_append_left _ hi)
    · rcases hq with rfl | ⟨j, rfl, hj⟩
      · exact h.ge i (List.mem_append_right _ hi)
      · have : i = j := by simpa using hi
        omega
theorem Gs.beside {B Bw : Nat} {w0 W0 w w' : World} {p l y g k m c r : Nat} {q : Option Nat} {L : Lg} {v : Value} {ws : List RSl} {R : List (List UInt8)} (h : Gs B Bw w0 W0 w p l y g k m c r q L v ws R) (hb : Below w.heap.size w w') : Gs B Bw w0 W0 w' p l y g k m c r q L v ws R :=
  ⟨(hb.block p (blk_lt h.blk)).trans h.blk, h.log.below hb, OS_below h.row hb, fun z hz => (h.wnt z hz).below hb, h.eq, h.apart, h.ge, h.below.trans (hb.mono (Nat.le_trans h.rowge h.size)), Nat.le_trans h.size hb.size, h.rowge⟩
theorem Gs.push {B Bw g6 cap : Nat} {w0 W0 w w' : World} {p l y g k m c r : Nat} {q : Option Nat} {L : Lg} {v : Value} {ws : List RSl} {R : List (List UInt8)} (h : Gs B Bw w0 W0 w p l y g k m c r q L v ws R) (z : RSl) (hz : Wnt w0 w z)
    (hown : w'.ownsRow Bw 29 1 (.slice (some ⟨g6, 0, none⟩) (ws.length + 1) cap) (ws.length + 1) (ws.map RSl.v ++ [z.v])) (hg : w.grownBy w' v.ownBlock) (hor : v.ownBlock = some g6 ∨ g6 = w.heap.size) : Gs B Bw w0 W0 w' p l y g k m c r q L (.slice (some ⟨g6, 0, none⟩) (ws.length + 1) cap) (ws ++ [z]) (R ++ [z.bs]) := by
  have ho : Only w w' v.ownBlock.toList := Only.of_opt hg
  have hS : ∀ j cs (e : TypeId) f, w.heap[j]? = some (.cells cs e f) → e ≠ 29 → j ∉ v.ownBlock.toList := fun j cs e f hj he => row_apart (own_blk h.row) hj he
  obtain ⟨lc, hlb⟩ := h.log.blk
  obtain ⟨⟨gc, hgb⟩, ⟨kc, hkb⟩, ⟨es, cl, hmb⟩⟩ := h.log.dk.objs
  have hqS : ∀ j, q = some j → j ∉ v.ownBlock.toList := fun j hq hm => by
    cases hv : v.ownBlock with
    | none => rw [hv] at hm; cases hm
    | some i =>
      rw [hv] at hm
      have : j = i := by simpa using hm
      subst this
      exact h.apart j hv hq
  have hmS : m ∉ v.ownBlock.toList := fun hm => by
    cases hv : v.ownBlock with
    | none => rw [hv] at hm; cases hm
    | some i =>
      rw [hv] at hm
      have : m = i := by simpa using hm
      subst this
      obtain ⟨cs, hc⟩ := own_blk h.row m hv
      rw [hc] at hmb
      injection hmb with hmb
      cases hmb
  have hw : ∀ z, Wnt w0 w z → Wnt w0 w' z := fun z hz => hz.imp (fun h1 => own_only h1 ho (fun j hj => by obtain ⟨cs, hc⟩ := own_blk h1 j hj; exact hS _ _ _ _ hc (by decide))) id
  refine ⟨(ho.block p (blk_lt h.blk) (hS _ _ _ _ h.blk (by decide))).trans h.blk, h.log.only2 ho (hS _ _ _ _ hlb (by decide)) (hS _ _ _ _ hgb (by decide)) (hS _ _ _ _ hkb (by decide)) hmS (fun j cs f hj => hS _ _ _ _ hj (by decide)) hqS, by rw [List.length_append, List.length_singleton, List.map_append]; exact hown, ?_, by rw [List.map_append, h.eq]; rfl, ?_, h.ge, h.below.trans (ho.below (B := B) (fun i hi => ?_) (Nat.le_trans h.rowge h.size)), Nat.le_trans h.size ho.size, h.rowge⟩
  · intro x hx
    rcases List.mem_append.1 hx with hx | hx
    · exact hw x (h.wnt x hx)
    · rw [List.mem_singleton.1 hx]; exact hw z hz
  · intro j hj hq
    have hj : g6 = j := by injection hj
    subst hj
    rcases hor with hor | hor
    · exact h.apart _ hor hq
    · have := row_old h.log.row _ hq
      omega
  · cases hv : v.ownBlock with
    | none => rw [hv] at hi; cases hi
    | some j =>
      rw [hv] at hi
      have : i = j := by simpa using hi
      subst this
      exact Nat.le_trans h.rowge (World.ownsRow.lt h.row i hv).1
theorem Gs.grown {B Bw : Nat} {w0 W0 w w' : World} {p l y g k m c r : Nat} {q : Option Nat} {L : Lg} {v : Value} {ws : List RSl} {R : List (List UInt8)} (h : Gs B Bw w0 W0 w p l y g k m c r q L v ws R) (hg : w.grownBy w' v.ownBlock) :
    JLog w' y g k m c q L ∧ (∀ z, Wnt w0 w z → Wnt w0 w' z) ∧ Below B w w' ∧ Only w w' v.ownBlock.toList ∧ ∀ j cs f, w.heap[j]? = some (.cells cs 5 f) → j ∉ v.ownBlock.toList := by
  have ho : Only w w' v.ownBlock.toList := Only.of_opt hg
  have hS : ∀ j cs (e : TypeId) f, w.heap[j]? = some (.cells cs e f) → e ≠ 29 → j ∉ v.ownBlock.toList := fun j cs e f hj he => row_apart (own_blk h.row) hj he
  obtain ⟨lc, hlb⟩ := h.log.blk
  obtain ⟨⟨gc, hgb⟩, ⟨kc, hkb⟩, ⟨es, cl, hmb⟩⟩ := h.log.dk.objs
  have hqS : ∀ j, q = some j → j ∉ v.ownBlock.toList := fun j hq hm => by
    cases hv : v.ownBlock with
    | none => rw [hv] at hm; cases hm
    | some i =>
      rw [hv] at hm
      have : j = i := by simpa using hm
      subst this
      exact h.apart j hv hq
  have hmS : m ∉ v.ownBlock.toList := fun hm => by
    cases hv : v.ownBlock with
    | none => rw [hv] at hm; cases hm
    | some i =>
      rw [hv] at hm
      have : m = i := by simpa using hm
      subst this
      obtain ⟨cs, hc⟩ := own_blk h.row m hv
      rw [hc] at hmb
      injection hmb with hmb
      cases hmb
  refine ⟨h.log.only2 ho (hS _ _ _ _ hlb (by decide)) (hS _ _ _ _ hgb (by decide)) (hS _ _ _ _ hkb (by decide)) hmS (fun j cs f hj => hS _ _ _ _ hj (by decide)) hqS, fun z hz => hz.imp (fun h1 => own_only h1 ho (fun j hj => by obtain ⟨cs, hc⟩ := own_blk h1 j hj; exact hS _ _ _ _ hc (by decide))) id, ho.below (B := B) (fun i hi => ?_) (Nat.le_trans h.rowge h.size), ho, fun j cs f hj => hS _ _ _ _ hj (by decide)⟩
  cases hv : v.ownBlock with
  | none => rw [hv] at hi; cases hi
  | some j =>
    rw [hv] at hi
    have : i = j := by simpa using hi
    subst this
    exact Nat.le_trans h.rowge (World.ownsRow.lt h.row i hv).1
set_option maxRecDepth 100000 in
set_option maxHeartbeats 6400000 in
theorem jgoes_walk (Ls : Option Addr) (cl : Nat) (ls : List DoL) (cu ag : CutL) (Lm : Option Addr) (cm : Nat) (ms : List RSl) (w : World)
    (hL : Lies w Ls (ls.flatMap dok)) (hI : ∀ x ∈ ls, x.In w) (hll : ls.length ≤ 9223372036854775807) (hcu : cu.In w) (hag : ag.In w)
    (hM : Lies w Lm (ms.flatMap fun r => [r.v])) (hMI : ∀ x ∈ ms, x.In w) (hml : ms.length ≤ 9223372036854775807) :
    Calls Try.prog 4 #[.slice Ls ls.length cl, .agg (cutk cu).toArray, .agg (cutk ag).toArray, .slice Lm ms.length cm] w fun e w' => e = .returned (.bool true) ∧ Below w.heap.size w w' := by
  have HMs := Lib.hid hM
  have HMI := Lib.hid hMI
  clear hM hMI
  obtain ⟨cf, ct, ca, cA, cc, ck⟩ := cu
  obtain ⟨zf, zt, za, zA, zc, zk⟩ := ag
  unfold cutk
  dsimp only
  obtain ⟨W0, hW0⟩ : ∃ W0, ((w.alloc (.cells #[.int .i64 cf, .int .i64 ct, .int .i64 ca, .slice cA ck.length cc] 43)).alloc (.cells #[.int .i64 zf, .int .i64 zt, .int .i64 za, .slice zA zk.length zc] 43)) = W0 := ⟨_, rfl⟩
  have hsz : W0.heap.size = w.heap.size + 2 := by rw [← hW0]; simp
  have hb0 : Below w.heap.size w W0 := by rw [← hW0]; exact ((Below.refl _ _).alloc (Nat.le_refl _) _).alloc (by simp) _
  have hx0 : W0.heap[w.heap.size]? = some (.cells #[.int .i64 cf, .int .i64 ct, .int .i64 ca, .slice cA ck.length cc] 43 (0, 0)) := by rw [← hW0]; exact blk_alloc (heap_alloc_new w _)
  have hx1 : W0.heap[w.heap.size + 1]? = some (.cells #[.int .i64 zf, .int .i64 zt, .int .i64 za, .slice zA zk.length zc] 43 (0, 0)) := by
    rw [← hW0]
    have := heap_alloc_new (w.alloc (.cells #[.int .i64 cf, .int .i64 ct, .int .i64 ca, .slice cA ck.length cc] 43)) (.cells #[.int .i64 zf, .int .i64 zt, .int .i64 za, .slice zA zk.length zc] 43)
    rw [show (w.alloc (.cells #[.int .i64 cf, .int .i64 ct, .int .i64 ca, .slice cA ck.length cc] 43)).heap.size = w.heap.size + 1 by simp] at this
    exact this
  have HM := Lib.hid (made_any 100 none 0 [] W0 (by decide) (by decide) (Lies.nil _ _) (fun _ => rfl) (by decide) (by decide) (fun a e => by cases e))
  simp only [List.length_nil] at HM
  obtain ⟨hfe, hfl⟩ := format_new 100 (by decide) (by decide) []
  have HFl := Lib.hid hfl
  have HLs := Lib.hid hL
  have HI := Lib.hid hI
  have HAg := Lib.hid hag
  have HCu := Lib.hid hcu
  have HAw := Lib.hid (fun w2 => jawake_any w2)
  have HSz := Lib.hid hsz
  obtain ⟨R, hR⟩ : ∃ R, RL.format 100 [] = R := ⟨_, rfl⟩
  have h00 : (RL.format 100 []).1 = 0 := by decide +kernel
  rw [hR] at HM HFl h00
  obtain ⟨e0, x0⟩ := R
  dsimp only at HM HFl h00
  subst h00
  obtain ⟨B, hB⟩ : ∃ B, B = W0.heap.size := ⟨_, rfl⟩
  have HB := Lib.hid hB
  rw [← hB] at HM
  have HX := Lib.hid (⟨hb0, hx0, hx1⟩ : _ ∧ _ ∧ _)
  have HW0 := Lib.hid hW0
  clear hL hI hfe hfl hR hB hag hcu hb0 hx0 hx1 hsz hW0
  go_enter Try.func4, Try.ntmps4
  go_wp2_with fail
  rw [HW0.out]
  refine HM.out.mono ?_
  rintro e w1 ⟨pv, rfl, hb1, h1⟩
  rcases h1 with ⟨h1, _⟩ | ⟨h0, p, g, k, m, c1, r, rfl, hP⟩
  · exact absurd rfl h1
  · have hAl : Alike 1 100 (formatLg (fresh 100) []) x0 := by
      obtain ⟨f1, f2, f3, f4⟩ := HFl.out (by first | rfl | trivial)
      exact ⟨f1, f3, f2, f4⟩
    have hb1' : Below B W0 w1 := hb1
    have H1 := Lib.hid (⟨_, _, hP, hAl, hb1'⟩ : ∃ L x, PairS B w1 p g k m c1 r L x ∧ Alike 1 100 L x ∧ Below B W0 w1)
    clear HM HFl hP hAl hb1 h0
    go_wp2_with fail
    go_loopg [34] ls.length (fun rr i wr => ∃ j : Nat, j + rr = ls.length ∧ i = .int .i64 j ∧ ∃ L x, PairS B wr p g k m c1 r L x ∧ Alike (1 + min j 20) 100 L x ∧ Below B W0 wr)
    case atStart => exact ⟨0, by omega, rfl, H1.out⟩
    case round =>
      clear H1
      obtain ⟨j, hj, rfl, L, x, hP, ha, hbw⟩ := hrel
      have hwB : w.heap.size ≤ B := by have := HB.out; have := HSz.out; omega
      have hBw : B ≤ wr.heap.size := by have := HB.out; have := hbw.size; omega
      have hbww : Below w.heap.size w wr := HX.out.1.trans (hbw.mono hwB)
      by_cases hjl : j < ls.length
      · obtain ⟨p0, rfl, hcell⟩ := flat_get (f := dok) (n := 2) (fun _ => rfl) (by decide) (HLs.out.below hbww) j hjl
        have hk := HI.out _ (List.getElem_mem hjl)
        generalize ls[j] = kx at hcell hk
        unfold dok at hcell
        have HC := Lib.hid hcell
        have HK := Lib.hid hk
        have HP := Lib.hid hP
        have HA := Lib.hid ha
        have HBw := Lib.hid (⟨hbw, hbww, hwB, hBw⟩ : _ ∧ _ ∧ _ ∧ _)
        clear hcell hk hP ha hbw hbww hwB hBw
        have hj1 : decide ((j : Int) < (ls.length : Int)) = true := decide_eq_true (by omega)
        have hj2 : (j : Int) < (ls.length : Int) := by omega
        have hj0 : (0 : Int) ≤ (j : Int) := by omega
        go_upto_region 7 with (refine wpList_load_any rfl 48 (.tmp 37) rfl _ rfl _ _ HC.out rfl rfl info_do ?_)
        have hb5 : Below wr.heap.size wr (wr.alloc (.cells #[.int .i64 kx.op, .slice kx.A kx.b.length kx.c] 48)) := (Below.refl _ _).alloc (Nat.le_refl _) _
        have hy0 : (wr.alloc (.cells #[.int .i64 kx.op, .slice kx.A kx.b.length kx.c] 48)).cell? ⟨wr.heap.size, 0, none⟩ = some (.int .i64 kx.op) := by go_cell
        have hy1 : (wr.alloc (.cells #[.int .i64 kx.op, .slice kx.A kx.b.length kx.c] 48)).cell? ⟨wr.heap.size, 1, none⟩ = some (.slice kx.A kx.b.length kx.c) := by go_cell
        have HP5 := Lib.hid (HP.out.below hb5)
        have HB5 := Lib.hid (⟨HBw.out.1.trans (hb5.mono HBw.out.2.2.2), HBw.out.2.1.trans (hb5.mono HBw.out.2.1.size), HBw.out.2.2.1, Nat.le_trans HBw.out.2.2.2 hb5.size⟩ : Below B W0 (wr.alloc (.cells #[.int .i64 kx.op, .slice kx.A kx.b.length kx.c] 48)) ∧ Below w.heap.size w (wr.alloc (.cells #[.int .i64 kx.op, .slice kx.A kx.b.length kx.c] 48)) ∧ w.heap.size ≤ B ∧ B ≤ (wr.alloc (.cells #[.int .i64 kx.op, .slice kx.A kx.b.length kx.c] 48)).heap.size)
        generalize (wr.alloc (.cells #[.int .i64 kx.op, .slice kx.A kx.b.length kx.c] 48)) = W5 at *
        generalize wr.heap.size = N5 at *
        clear hb5 HC HP HBw
        by_cases h40 : j < 20
        · have e40 : decide ((j : Int) < 20) = true := decide_eq_true (by omega)
          have HSt := Lib.hid (step_do2 B p g k m c1 r (1 + min j 20) 100 L x kx w W5 HK.out HB5.out.2.2.1 HB5.out.2.2.2 HB5.out.2.1 HP5.out HA.out (by omega))
          go_wp2_with fail
          refine HSt.out.mono ?_
          rintro e w6 ⟨rfl, L', x', hP6, hA6, hb6⟩
          have H6 := Lib.hid (⟨hP6, hA6, hb6⟩ : _ ∧ _ ∧ _)
          clear hP6 hA6 hb6 HSt
          go_wp2_with fail
          go_roundg (ls.length - (j + 1))
          case measure => omega
          case rel =>
            obtain ⟨hP6, hA6, hb6⟩ := H6.out
            exact ⟨j + 1, by omega, by go_num, L', x', hP6, hA6.mono (by omega), HB5.out.1.trans hb6⟩
        · have e40 : decide ((j : Int) < 20) = false := decide_eq_false (by omega)
          go_wp2_with fail
          go_roundg (ls.length - (j + 1))
          case measure => omega
          case rel => exact ⟨j + 1, by omega, by go_num, L, x, HP5.out, HA.out.mono (by omega), HB5.out.1⟩
      · obtain rfl : j = ls.length := by omega
        have hj1 : decide ((ls.length : Int) < (ls.length : Int)) = false := decide_eq_false (by omega)
        obtain ⟨l, q1, qr, hP, hbl⟩ := hP
        have hBs : B = w.heap.size + 2 := by rw [HB.out]; exact HSz.out
        have ha2 : Alike 21 100 L x := ha.mono (by omega)
        have hPd0 : Pd B W0 wr p l g k m c1 r L.d := ⟨hP.blk, hP.log.dk, fun i hi => hbl i (by simp at hi ⊢; rcases hi with h | h | h <;> simp [h]), hbw, hBw⟩
        have hPd := hPd0.beside (Below.refl _ _).drew
        obtain ⟨hCl, kk, hk1, hk2, hh⟩ := ha2.inv.had (by decide) ck ct ca
        obtain ⟨rs', hrs'⟩ : ∃ rs', L.recs.take kk = rs' := ⟨_, rfl⟩
        rw [hrs'] at hh
        obtain ⟨d6, hd6⟩ : ∃ d6, L.d.crashed ck ct ca = d6 := ⟨_, rfl⟩
        rw [hd6] at hCl hh
        have HCr := Lib.hid (crash_any g k m c1 L.d cA cc ck ct ca wr.drew hPd.dk (HCu.out.ks.below (hbww.trans ((Below.refl wr.heap.size wr).drew.mono hbww.size))) (fun a e hne hm => by have h1 := lies_old HCu.out.ks (by simpa using hne) a e; have h2 := hPd.ge _ hm; omega) HCu.out.kl)
        rw [hd6] at HCr
        have HPd := Lib.hid hPd
        have HDn := Lib.hid (⟨hCl, hh⟩ : Clean 21 d6 L.hf L.ep L.sl ∧ d6.hasP = L.snap :: rs')
        have HWB := Lib.hid (⟨hwB, hBs⟩ : w.heap.size ≤ B ∧ B = w.heap.size + 2)
        have HC1 : Hid (∀ w2, Below B W0 w2 → w2.heap[w.heap.size]? = some (.cells #[.int .i64 cf, .int .i64 ct, .int .i64 ca, .slice cA ck.length cc] 43 (0, 0))) := fun w2 hb => (hb.block _ (by omega)).trans HX.out.2.1
        have HC2 : Hid (∀ w2, Below B W0 w2 → w2.heap[w.heap.size + 1]? = some (.cells #[.int .i64 zf, .int .i64 zt, .int .i64 za, .slice zA zk.length zc] 43 (0, 0))) := fun w2 hb => (hb.block _ (by omega)).trans HX.out.2.2
        have e0 := hPd.p0
        have hz1 := HC1.out _ hPd.below
        have e1 : wr.drew.cell? ⟨w.heap.size, 3, none⟩ = some (.slice cA ck.length cc) := blk_cell hz1
        have e2 : wr.drew.cell? ⟨w.heap.size, 1, none⟩ = some (.int .i64 ct) := blk_cell hz1
        have e3 : wr.drew.cell? ⟨w.heap.size, 2, none⟩ = some (.int .i64 ca) := blk_cell hz1
        have HKp : Hid (∀ w6, Only wr.drew w6 [g, k, m] → DkAt w6 g k m c1 d6 → w6.cell? ⟨p, 0, none⟩ = some (.pointer (some ⟨g, 0, none⟩)) ∧ w6.cell? ⟨w.heap.size, 3, none⟩ = some (.slice cA ck.length cc) ∧ w6.cell? ⟨w.heap.size, 1, none⟩ = some (.int .i64 ct) ∧ w6.cell? ⟨w.heap.size, 2, none⟩ = some (.int .i64 ca)) := fun w6 ho6 hd => by
          have h1 := HPd.out.step ho6 hd
          have b2 := HC1.out _ h1.below
          exact ⟨h1.p0, blk_cell b2, blk_cell b2, blk_cell b2⟩
        clear hP hbl ha ha2 hPd0 hPd hCl hh hd6 hbw hbww hBw hz1 hwB hBs hk1 hk2 hrs'
        go_wp2_with fail
        go_region_held3 (fun w' => w'.cell? ⟨p, 0, none⟩ = some (.pointer (some ⟨g, 0, none⟩)) ∧ w'.cell? ⟨w.heap.size, 3, none⟩ = some (.slice cA ck.length cc) ∧ w'.cell? ⟨w.heap.size, 1, none⟩ = some (.int .i64 ct) ∧ w'.cell? ⟨w.heap.size, 2, none⟩ = some (.int .i64 ca)) (first | exact ⟨e0, e1, e2, e3⟩ | exact e4) (first
          | (go_at_call 20; refine HCr.out.mono ?_; rintro e w6 ⟨rfl, hd6, ho6⟩; have e4 := HKp.out w6 ho6 hd6))
        have hPd6 := HPd.out.step ho6 hd6
        have q0 := hPd6.p0
        obtain ⟨o1, o2, o3, o4, o5, o6, o7⟩ := open_clean HDn.out.1 (by decide) L.snap rs' HDn.out.2
        have HOp := Lib.hid (open_log g k m c1 d6 w6 hPd6.dk)
        rw [o1] at HOp
        obtain ⟨Lx, hLx⟩ : ∃ Lx, openLg d6 = Lx := ⟨_, rfl⟩
        rw [hLx] at HOp o2 o3 o5 o6
        have HLx := Lib.hid (⟨o2, o3⟩ : LInv 22 Lx ∧ Lx.d.bound = false)
        have HPd6 := Lib.hid hPd6
        clear e0 e1 e2 e3 HCr HKp hPd6 hd6 ho6 e4 HPd o1 o2 o3 o4 o5 o6 o7 hLx HDn
        go_wp2_with fail
        refine HOp.out.mono ?_
        rintro e w7 ⟨pv, rfl, hd7, ho7, h7⟩
        rcases h7 with ⟨h7, _⟩ | ⟨_, y, qy, rfl, hy, hjy, _, hqy⟩
        · exact absurd rfl h7
        have hPd7 := HPd6.out.step ho7 hd7
        have hsm := HLx.out.1.few
        have HRe := Lib.hid (records_any y g k m c1 qy Lx w7 hjy (fun z hz => by have := HLx.out.1.recl z hz; omega) hsm.1)
        have HPd7 := Lib.hid (⟨hPd7, hjy, (fun j hj => Nat.le_trans HPd6.out.size (hqy j hj) : ∀ j, qy = some j → B ≤ j), Nat.le_trans HPd6.out.size hy⟩ : _ ∧ _ ∧ _ ∧ _)
        clear hd7 ho7 hjy hqy hy hPd7 HOp HPd6 q0 hsm
        go_wp2_with fail
        refine HRe.out.mono ?_
        rintro e w8 ⟨v8, ws, rfl, hw8, ho8, hq8, hb8⟩
        have hGs : Gs B w7.heap.size w W0 w8 p l y g k m c1 r qy Lx v8 ws Lx.recs := by
          obtain ⟨k1, k2, k3, k4⟩ := HPd7.out
          have k5 := k1.beside hb8
          refine ⟨k5.blk, k2.below hb8, hw8, fun z hz => .inl (OB.mono (ho8 z hz) (Nat.zero_le _)), hq8, ?_, ?_, k5.below, hb8.size, k1.size⟩
          · intro j hv hq
            have h1 := (World.ownsRow.lt hw8 j hv).1
            have h2 := row_old k2.row j hq
            omega
          · intro i hi
            rcases List.mem_append.1 hi with hi | hi
            · rcases List.mem_cons.1 hi with rfl | hi
              · exact k4
              · exact k1.ge i hi
            · exact k3 i (by simpa using hi)
        have HGs := Lib.hid hGs
        obtain ⟨A8, c8, rfl, -⟩ := own_form hw8
        clear hw8 ho8 hq8 hb8 hGs HRe
        have HML : Hid (maxLen = 9223372036854775807) := rfl
        go_upto_block 2 with fail
        go_cut [15] (fun s15 wc => ∃ (q2 : Option Nat) (L2 : Lg) (v : Value) (ws2 : List RSl), s15 = v ∧ Gs B w7.heap.size w W0 wc p l y g k m c1 r q2 L2 v ws2 L2.recs ∧ LInv 30 L2 ∧ L2.d.bound = false)
        case first =>
          go_wp2_with fail
          go_loopg [73, 15] ms.length (fun rr s73 s15 wr => ∃ j : Nat, j + rr = ms.length ∧ s73 = .int .i64 j ∧ ∃ (q2 : Option Nat) (L2 : Lg) (v : Value) (ws2 : List RSl), s15 = v ∧ Gs B w7.heap.size w W0 wr p l y g k m c1 r q2 L2 v ws2 L2.recs ∧ LInv (22 + min j 8) L2 ∧ L2.d.bound = false)
          case atStart => exact ⟨0, by omega, rfl, _, _, _, _, rfl, HGs.out, HLx.out.1, HLx.out.2⟩
          case round =>
            clear HGs HLx
            obtain ⟨j, hj, rfl, q2, L2, v, ws2, rfl, hG, hI2, hb2⟩ := hrel
            obtain ⟨Av, cv, rfl, -⟩ := own_form hG.row
            by_cases hjl : j < ms.length
            · have hjw : Below w.heap.size w wr := HX.out.1.trans (hG.below.mono (by have := HB.out; have := HSz.out; omega))
              obtain ⟨p0, rfl, hcell⟩ := flat_get (f := fun r : RSl => [r.v]) (n := 1) (fun _ => rfl) (by decide) (HMs.out.below hjw) j hjl
              have hk := HMI.out _ (List.getElem_mem hjl)
              generalize ms[j] = kx at hcell hk
              obtain ⟨kA, kc, kb⟩ := kx
              have hcv := hcell 0 _ rfl
              rw [Addr.add_zero', Nat.mul_one] at hcv
              unfold RSl.v at hcv
              dsimp only at hcv
              have HK := Lib.hid hk
              have HG := Lib.hid hG
              have HJ2 := Lib.hid (⟨hI2, hb2, hjw⟩ : _ ∧ _ ∧ _)
              clear hcell hk hG hI2 hb2 hjw
              have hj1 : decide ((j : Int) < (ms.length : Int)) = true := decide_eq_true (by omega)
              have hj2 : (j : Int) < (ms.length : Int) := by omega
              have hj0 : (0 : Int) ≤ (j : Int) := by omega
              obtain ⟨n, hn1, hn5, hn0, hn3, hn2, hnM⟩ := cut_len kc kb 600 600 rfl HK.out.cc
              obtain ⟨b2, hb2'⟩ : ∃ b2, kb.take 600 = b2 := ⟨_, rfl⟩
              rw [hb2'] at hn2
              have hrb : RB w kA b2 := by rw [← hb2']; exact HK.out.rb.takeN 600
              have HRb := Lib.hid hrb
              have HN2 := Lib.hid hn2
              clear hrb hb2' hn2
              by_cases h8 : j < 8
              · have e8 : decide ((j : Int) ≥ 8) = false := decide_eq_false (by omega)
                have e8' : decide ((8 : Int) ≤ (j : Int)) = false := decide_eq_false (by omega)
                by_cases hn0' : n = 0
                · have en : ((n : Int) == 0) = true := by rw [hn0']; rfl
                  clear hn0'
                  go_wp2_with fail
                  go_roundg (ms.length - (j + 1))
                  case measure => omega
                  case rel => exact ⟨j + 1, by omega, by go_num, q2, L2, _, ws2, rfl, HG.out, HJ2.out.1.mono (by omega), HJ2.out.2.1⟩
                · have en : ((n : Int) == 0) = false := by rw [beq_eq_false_iff_ne]; omega
                  have en2 : ¬ ((n : Int) = 0) := by omega
                  have en3 : (n == 0) = false := by rw [beq_eq_false_iff_ne]; exact hn0'
                  have hfit := HJ2.out.1.fit (by omega)
                  have hsc : b2.length ≤ kc := by have := HN2.out; omega
                  have HAp := Lib.hid (append_any y g k m c1 q2 L2 kA kc b2 wr HG.out.log hfit (HRb.out.below HJ2.out.2.2) HK.out.c0 hsc (by have := HN2.out; omega) (fun a e hne hm => by
                    have h1 := HRb.out.old a e hne
                    have h2 := HG.out.ge a.block (List.mem_append_left _ hm)
                    have := HB.out
                    have := HSz.out
                    omega))
                  rw [← HN2.out] at HAp
                  have HAf := Lib.hid (append_free HJ2.out.1 (by omega) HJ2.out.2.1 b2 (by have := HN2.out; omega) (by have := HN2.out; omega))
                  obtain ⟨E1, hE1⟩ : ∃ E, (appendP L2 b2).1 = E := ⟨_, rfl⟩
                  obtain ⟨E, hE⟩ : ∃ E, (appendP L2 b2).2.1 = E := ⟨_, rfl⟩
                  obtain ⟨L3, hL3⟩ : ∃ L3, (appendP L2 b2).2.2 = L3 := ⟨_, rfl⟩
                  rw [hE, hL3] at HAf
                  rw [hE1, hE, hL3] at HAp
                  clear hE1 hE hL3 hfit hsc hn0'
                  go_wp2_with fail
                  refine HAp.out.mono ?_
                  rintro e w9 ⟨rfl, ⟨q3, hj3, hq3⟩, ho3⟩
                  have hG3 := HG.out.ours (ho3.mono (by intro i hi; simp at hi ⊢; rcases hi with h | h | h | h <;> simp [h])) hj3 hq3
                  have HG3 := Lib.hid hG3
                  clear hG3 hj3 hq3 ho3 HAp
                  rcases HAf.out with ⟨rfl, rfl⟩ | ⟨rfl, h1, h2, h3, h4⟩
                  · clear HAf
                    go_wp2_with fail
                    go_meet
                    exact ⟨q3, L3, _, ws2, rfl, HG3.out, HJ2.out.1.mono (by omega), HJ2.out.2.1⟩
                  · have H3 := Lib.hid (⟨h1, h2, h4⟩ : _ ∧ _ ∧ _)
                    clear HAf h1 h2 h3 h4
                    have hbA : Below w9.heap.size w9 (w9.alloc (.cells #[.slice kA n kc] 29)) := (Below.refl _ _).alloc (Nat.le_refl _) _
                    have HGA := Lib.hid (HG3.out.beside hbA)
                    have hfew : ws2.length ≤ 1000000 := by
                      have h1 := congrArg List.length HG.out.eq
                      rw [List.length_map] at h1
                      have := HJ2.out.1.few.1
                      omega
                    go_wp2_with (at_builtin; refine wpList_one rfl _ _ 22 rfl w7.heap.size 29 _ 24 Try.underlying22 info_bs rfl (.slice Av ws2.length cv) ws2.length (ws2.map RSl.v) rfl HGA.out.row _ (.slice kA n kc) rfl (tmp_here _ _ _) rfl ?c6 ?c7 ?c8 ?_)
                    case c6 => rw [HML.out]; omega
                    case c7 => omega
                    case c8 => exact HGA.out.size
                    intro g6 cap6 w11 hown6 hg6 hor hlt6
                    have hGp := HGA.out.push ⟨kA, kc, b2⟩ (.inr HRb.out) (by unfold RSl.v; dsimp only; rw [← HN2.out]; exact hown6) hg6 (hor.imp id (fun h => by rw [h]; simp))
                    have HGp := Lib.hid hGp
                    clear hGp hown6 hg6 hor hlt6 hbA HGA
                    go_wp2_with fail
                    go_roundg (ms.length - (j + 1))
                    case measure => omega
                    case rel =>
                      obtain ⟨h1, h2, h4⟩ := H3.out
                      have hGq := HGp.out
                      rw [← h2] at hGq
                      exact ⟨j + 1, by omega, by go_num, q3, L3, _, _, rfl, hGq, h1.mono (by omega), h4⟩
              · have e8 : decide ((j : Int) ≥ 8) = true := decide_eq_true (by omega)
                have e8' : decide ((8 : Int) ≤ (j : Int)) = true := decide_eq_true (by omega)
                go_wp2_with fail
                go_roundg (ms.length - (j + 1))
                case measure => omega
                case rel => exact ⟨j + 1, by omega, by go_num, q2, L2, _, ws2, rfl, HG.out, HJ2.out.1.mono (by omega), HJ2.out.2.1⟩
            · obtain rfl : j = ms.length := by omega
              have hj1 : decide ((ms.length : Int) < (ms.length : Int)) = false := decide_eq_false (by omega)
              have HG := Lib.hid (⟨hG, hI2, hb2⟩ : _ ∧ _ ∧ _)
              clear hG hI2 hb2
              go_wp2_with fail
              go_meet
              exact ⟨q2, L2, _, ws2, rfl, HG.out.1, HG.out.2.1.mono (by omega), HG.out.2.2⟩
        case rest =>
          clear HGs HLx
          obtain ⟨q2, L2, v, ws2, rfl, hG, hI2, hbd⟩ := hcut
          obtain ⟨Av, cv, rfl, -⟩ := own_form hG.row
          have kc := fun (w : World) (C : Array Value) (n c : Nat) => Lib.run_convert_bytes_const (P := Try.prog) w 29 5 C n c Try.underlying29 Try.underlying5
          obtain ⟨⟨t1, t2, t3, t4, t5, _⟩ | ⟨_, t1, _⟩, t6, t7⟩ := sync_step hI2 (by decide)
          rotate_left
          · rw [hbd] at t1; cases t1
          have HSy := Lib.hid (lsync_any y g k m c1 q2 L2 wc hG.log (hI2.fit (by decide)))
          rw [t1] at HSy
          obtain ⟨L3, hL3⟩ : ∃ L3, (syncP L2).2 = L3 := ⟨_, rfl⟩
          rw [hL3] at t2 t3 t4 t5 t6 HSy
          have HL3 := Lib.hid (⟨t2, t3, t5⟩ : LInv 30 L3 ∧ L3.recs = L2.recs ∧ L3.su = L2.recs.length)
          have HG := Lib.hid hG
          clear t1 t2 t3 t4 t5 t6 t7 hL3 hG hI2 hbd
          go_wp2_with fail
          refine HSy.out.mono ?_
          rintro e w12 ⟨rfl, hj12, ho12⟩
          have hG12 := HG.out.ours (ho12.mono (fun i hi => List.mem_append_left _ hi)) hj12 (.inl rfl)
          have HSn := Lib.hid (snapshot_any y g k m c1 q2 L3 w12 hG12.log (by have := HL3.out.1.snapl; omega))
          have HG12 := Lib.hid hG12
          clear hj12 ho12 hG12 HSy HG
          go_wp2_with fail
          refine HSn.out.mono ?_
          rintro e w13 ⟨v13, rfl, ho13, hb13⟩
          obtain ⟨A13, c13, rfl, -⟩ := OB.form ho13
          have HG13 := Lib.hid (⟨HG12.out.beside hb13, ho13⟩ : _ ∧ _)
          clear ho13 hb13 HSn HG12
          go_wp2_with fail
          refine (append_lit y g k m c1 q2 L3 loose w13 HG13.out.1.log (HL3.out.1.fit (by decide)) _ rfl _ _ 5 rfl (by decide)).mono ?_
          rintro e w14 ⟨rfl, ⟨q4, hj14, hq4⟩, ho14⟩
          have ho14' : Only w13 w14 ([y, g, k, m] ++ q2.toList) := ho14.mono (by intro i hi; simp at hi ⊢; rcases hi with h | h | h | h <;> simp [h])
          have hG14 := HG13.out.1.ours ho14' hj14 hq4
          have hob14 := OB.ours HG13.out.2 HG13.out.1.log ho14'
          obtain ⟨L4, hL4⟩ : ∃ L4, (appendP L3 loose).2.2 = L4 := ⟨_, rfl⟩
          rw [hL4] at hG14
          have hcr := crash_one HL3.out.1 (by decide) loose zk zt za
          rw [hL4] at hcr
          obtain ⟨hf', ep', sl', hCl', kk, hk1, hk2, hh'⟩ := hcr
          rw [HL3.out.2.2] at hk1
          rw [HL3.out.2.1] at hk2 hh'
          have hdr : Below w14.heap.size w14 w14.drew := (Below.refl _ _).drew
          have hGD := hG14.beside hdr
          have hPd : Pd B W0 w14.drew p l g k m c1 r L4.d := ⟨hGD.blk, hGD.log.dk, fun i hi => hGD.ge i (by simp at hi ⊢; rcases hi with h | h | h <;> simp [h]), hGD.below, Nat.le_trans hGD.rowge hGD.size⟩
          have hobD := OB.below hob14 hdr
          have HCr := Lib.hid (crash_any g k m c1 L4.d zA zc zk zt za w14.drew hPd.dk (HAg.out.ks.below (HX.out.1.trans (hPd.below.mono HWB.out.1))) (fun a e hne hm => by have h1 := lies_old HAg.out.ks (by simpa using hne) a e; have h2 := hPd.ge _ hm; have := HWB.out.1; omega) HAg.out.kl)
          obtain ⟨d5, hd5e⟩ : ∃ d5, L4.d.crashed zk zt za = d5 := ⟨_, rfl⟩
          rw [hd5e] at HCr hCl' hh'
          have HDm := Lib.hid (⟨hCl', hh', hk1, hk2⟩ : Clean 31 d5 hf' ep' sl' ∧ d5.hasP = L3.snap :: (L2.recs ++ [loose]).take kk ∧ L2.recs.length ≤ kk ∧ kk ≤ (L2.recs ++ [loose]).length)
          have g0 := hPd.p0
          have hz2 := HC2.out _ hPd.below
          have g1 : w14.drew.cell? ⟨w.heap.size + 1, 3, none⟩ = some (.slice zA zk.length zc) := blk_cell hz2
          have g2' : w14.drew.cell? ⟨w.heap.size + 1, 1, none⟩ = some (.int .i64 zt) := blk_cell hz2
          have g3 : w14.drew.cell? ⟨w.heap.size + 1, 2, none⟩ = some (.int .i64 za) := blk_cell hz2
          have HPdD := Lib.hid (⟨hPd, hGD, hobD⟩ : _ ∧ _ ∧ _)
          have HKp : Hid (∀ w6, Only w14.drew w6 [g, k, m] → DkAt w6 g k m c1 d5 → w6.cell? ⟨p, 0, none⟩ = some (.pointer (some ⟨g, 0, none⟩)) ∧ w6.cell? ⟨w.heap.size + 1, 3, none⟩ = some (.slice zA zk.length zc) ∧ w6.cell? ⟨w.heap.size + 1, 1, none⟩ = some (.int .i64 zt) ∧ w6.cell? ⟨w.heap.size + 1, 2, none⟩ = some (.int .i64 za)) := fun w6 ho6 hd => by
            have h1 := HPdD.out.1.step ho6 hd
            have b2 := HC2.out _ h1.below
            exact ⟨h1.p0, blk_cell b2, blk_cell b2, blk_cell b2⟩
          generalize (appendP L3 loose).1 = u1 at *
          generalize (appendP L3 loose).2.1 = u2 at *
          clear hG14 hob14 hj14 hq4 ho14 ho14' hL4 hCl' hk1 hk2 hh' hdr hGD hPd hobD hd5e hz2 HG13
          go_wp2_with fail
          go_region_held3 (fun w' => w'.cell? ⟨p, 0, none⟩ = some (.pointer (some ⟨g, 0, none⟩)) ∧ w'.cell? ⟨w.heap.size + 1, 3, none⟩ = some (.slice zA zk.length zc) ∧ w'.cell? ⟨w.heap.size + 1, 1, none⟩ = some (.int .i64 zt) ∧ w'.cell? ⟨w.heap.size + 1, 2, none⟩ = some (.int .i64 za)) (first | exact ⟨g0, g1, g2', g3⟩ | exact g4) (first
            | (go_at_call 20; refine HCr.out.mono ?_; rintro e w15 ⟨rfl, hd15, ho15⟩; have g4 := HKp.out w15 ho15 hd15))
          have hPd15 := HPdD.out.1.step ho15 hd15
          have hrow15 := own_disk HPdD.out.2.1.row HPdD.out.1.dk (by decide) (by decide) ho15
          have hob15 := OB.disk HPdD.out.2.2 HPdD.out.1.dk ho15
          have hw15 : ∀ z ∈ ws2, Wnt w w15 z := fun z hz => (HPdD.out.2.1.wnt z hz).imp (fun h => OB.disk h HPdD.out.1.dk ho15) id
          have g0' := hPd15.p0
          have HRw := Lib.hid HPdD.out.2.1.eq
          obtain ⟨rz, hrz⟩ : ∃ rz, (L2.recs ++ [loose]).take kk = rz := ⟨_, rfl⟩
          have hDm := HDm.out
          rw [hrz] at hDm
          obtain ⟨o1, o2, o3, o4, o5, o6, o7⟩ := open_clean hDm.1 (by decide) L3.snap rz hDm.2.1
          have HOp := Lib.hid (open_log g k m c1 d5 w15 hPd15.dk)
          rw [o1] at HOp
          obtain ⟨Lz, hLz⟩ : ∃ Lz, openLg d5 = Lz := ⟨_, rfl⟩
          rw [hLz] at HOp o2 o5 o6
          have hFnd : foundP Lz L3.snap (L2.recs ++ [loose]) L2.recs.length = true := by
            unfold foundP
            have hl : rz.length = kk := by rw [← hrz, List.length_take]; have := hDm.2.2.2; omega
            rw [o5, o6, beq_self_eq_true, hl, decide_eq_true hDm.2.2.1, decide_eq_true hDm.2.2.2, decide_eq_true hrz.symm]
            rfl
          have HLz := Lib.hid (⟨o2.snapl, o2.recl, o2.few.1, hFnd⟩ : Lz.snap.length ≤ 262144 ∧ (∀ y ∈ Lz.recs, y.length ≤ 262144) ∧ Lz.recs.length ≤ 1000000 ∧ foundP Lz L3.snap (L2.recs ++ [loose]) L2.recs.length = true)
          have HPd15 := Lib.hid (⟨hPd15, hrow15, hob15, hw15, HPdD.out.2.1.size, ho15.size⟩ : _ ∧ _ ∧ _ ∧ _ ∧ _ ∧ _)
          have HL2f := Lib.hid HL3.out.1.few.1
          clear o1 o2 o3 o4 o5 o6 o7 hLz hPd15 hrow15 hob15 hw15 hDm hrz hFnd g0 g1 g2' g3 HCr HKp hd15 ho15 g4 HPdD HDm
          go_wp2_with fail
          refine HOp.out.mono ?_
          rintro e w16 ⟨pv, rfl, hd16, ho16, h16⟩
          rcases h16 with ⟨h16, _⟩ | ⟨_, z, qz, rfl, hz, hjz, _, hqz⟩
          · exact absurd rfl h16
          obtain ⟨k1, k2, k3, k4, k5, k6⟩ := HPd15.out
          have hPd16 := k1.step ho16 hd16
          have hrow16 := own_disk k2 k1.dk (by decide) (by decide) ho16
          have hob16 := OB.disk k3 k1.dk ho16
          have hw16 : ∀ z ∈ ws2, Wnt w w16 z := fun z hz => (k4 z hz).imp (fun h => OB.disk h k1.dk ho16) id
          have hwl : ws2.length = L2.recs.length := by rw [← HRw.out, List.length_map]
          have hsz16 : w7.heap.size ≤ w16.heap.size := by have h1 := k5; have h2 := k6; have h3 := ho16.size; omega
          have hqr : ∀ j, (Value.slice Av ws2.length cv).ownBlock = some j → qz ≠ some j := fun j hj hq => by
            have h1 := hqz j hq
            have h2 := (World.ownsRow.lt k2 j hj).2
            omega
          have hB15 : B ≤ w15.heap.size := k1.size
          have hGz : Gs B w7.heap.size w W0 w16 p l z g k m c1 r qz Lz (.slice Av ws2.length cv) ws2 L2.recs := by
            refine ⟨hPd16.blk, hjz, hrow16, hw16, HRw.out, hqr, ?_, hPd16.below, hsz16, ?_⟩
            · intro i hi
              rcases List.mem_append.1 hi with hi | hi
              · rcases List.mem_cons.1 hi with rfl | hi
                · omega
                · exact hPd16.ge i hi
              · have := hqz i (by simpa using hi)
                omega
            · exact HPd7.out.1.size
          have HGz := Lib.hid hGz
          have H16 := Lib.hid (⟨hPd16, hrow16, hob16, hw16, hjz, hqr, hsz16, hwl⟩ : _ ∧ _ ∧ _ ∧ _ ∧ _ ∧ _ ∧ _ ∧ _)
          clear hGz hB15 hPd16 hrow16 hob16 hw16 hjz hqr hsz16 hwl k1 k2 k3 k4 k5 k6 hd16 ho16 hqz hz HOp HPd15 g0'
          obtain ⟨f1, f2, f3, f4⟩ := HLz.out
          have hl2 := HL2f.out
          have hl3 : ws2.length ≤ 1000000 := by have := H16.out.2.2.2.2.2.2.2; have := HL3.out.2.1; rw [this] at hl2; omega
          have hbA : Below w16.heap.size w16 ((w16.alloc (.cells #[.int .u8 108, .int .u8 111, .int .u8 111, .int .u8 115, .int .u8 101] 5 (5, 6))).alloc (.cells #[.slice (some ⟨w16.heap.size, 0, none⟩) 5 5] 29)) := ((Below.refl _ _).alloc (Nat.le_refl _) _).alloc (by simp) _
          have HBA := Lib.hid hbA
          clear hbA hl2
          go_wp2_with (at_builtin; go_loud (refine wpList_one_g (by rfl) (.tmp 138) (.tmp 141) 22 rfl w7.heap.size 29 _ 24 Try.underlying22 info_bs rfl (.slice Av ws2.length cv) ws2.length (ws2.map RSl.v) rfl (OS_below H16.out.2.1 HBA.out) _ (.slice (some ⟨w16.heap.size, 0, none⟩) 5 5) rfl (tmp_next _ _ _ _) rfl ?c6 ?c7 ?c8 ?_))
          case c6 => rw [HML.out]; omega
          case c7 => omega
          case c8 => exact Nat.le_trans H16.out.2.2.2.2.2.2.1 HBA.out.size
          intro g6 cap6 w17 hown6 hg6 hor hlt6
          have hGA := HGz.out.beside HBA.out
          obtain ⟨k1, k2, k3, k4, k5⟩ := hGA.grown hg6
          have hlit : ((w16.alloc (.cells #[.int .u8 108, .int .u8 111, .int .u8 111, .int .u8 115, .int .u8 101] 5 (5, 6))).alloc (.cells #[.slice (some ⟨w16.heap.size, 0, none⟩) 5 5] 29)).heap[w16.heap.size]? = some (.cells #[.int .u8 108, .int .u8 111, .int .u8 111, .int .u8 115, .int .u8 101] 5 (5, 6)) := blk_alloc (heap_alloc_new w16 _)
          have hrbL : RB w17 (some ⟨w16.heap.size, 0, none⟩) loose := by
            have h1 : RB (w16.alloc (.cells #[.int .u8 108, .int .u8 111, .int .u8 111, .int .u8 115, .int .u8 101] 5 (5, 6))) (some ⟨w16.heap.size, 0, none⟩) loose := Lies.new w16 5 (loose.map vb) (5, 6)
            have h2 := Lies.below h1 ((Below.refl _ _).alloc (Nat.le_refl _) (.cells #[.slice (some ⟨w16.heap.size, 0, none⟩) 5 5] 29))
            exact RB.only h2 k4 (fun a e _ => by injection e with e; subst e; exact k5 _ _ _ hlit)
          have hbw17 : Below w.heap.size w w17 := HX.out.1.trans ((hGA.below.trans k3).mono HWB.out.1)
          have hob17 : RB w17 A13 L3.snap := RB.of_own (own_only (OB.below H16.out.2.2.1 HBA.out) k4 (fun j hj => by obtain ⟨cs, hc⟩ := own_blk (OB.below H16.out.2.2.1 HBA.out) j hj; exact k5 _ _ _ hc))
          have hcap : ws2.length + 1 ≤ cap6 := by
            obtain ⟨A', c', e', h'⟩ := own_form hown6
            injection e' with _ _ e3
            rw [e3]; exact h'
          have hrr : RecsR w17 (.slice (some ⟨g6, 0, none⟩) (ws2 ++ [(⟨some ⟨w16.heap.size, 0, none⟩, 5, loose⟩ : RSl)]).length cap6) (ws2 ++ [(⟨some ⟨w16.heap.size, 0, none⟩, 5, loose⟩ : RSl)]) := by
            refine ⟨_, _, rfl, by rw [List.length_append, List.length_singleton]; exact hcap, (fun e => by cases e), ?_, ?_⟩
            · rw [List.map_append]
              exact Lies.of_own hown6
            · intro y hy
              rcases List.mem_append.1 hy with hy | hy
              · exact (k2 y (hGA.wnt y hy)).rb hbw17
              · rw [List.mem_singleton.1 hy]; exact hrbL
          have hfd := jfound_any z g k m c1 qz Lz A13 c13 L3.snap (some ⟨g6, 0, none⟩) cap6 (ws2 ++ [(⟨some ⟨w16.heap.size, 0, none⟩, 5, loose⟩ : RSl)]) ws2.length w17 k1 hob17 hrr f1 f2 f3 (by rw [List.length_append, List.length_singleton]; have := H16.out.2.2.2.2.2.2.2; have h1 := HL3.out.1.few; have h2 := HL3.out.1.roomPos; have h3 := allP_len L3.snap L3.recs; have h4 := HL3.out.2.1; rw [h4] at h3; rw [h4] at h1; omega) hl3
          have hmp : (ws2 ++ [(⟨some ⟨w16.heap.size, 0, none⟩, 5, loose⟩ : RSl)]).map RSl.bs = L2.recs ++ [loose] := by rw [List.map_append, HRw.out]; rfl
          rw [hmp, H16.out.2.2.2.2.2.2.2, f4, List.length_append, List.length_singleton, H16.out.2.2.2.2.2.2.2] at hfd
          have HFd := Lib.hid hfd
          have HEnd := Lib.hid hbw17
          have HWl := Lib.hid H16.out.2.2.2.2.2.2.2
          clear k1 k2 k3 k4 k5 hGA hlit hrbL hob17 hcap hrr hmp hfd hbw17 hown6 hg6 hor hlt6 f1 f2 f3 f4
          rw [HWl.out]
          go_wp2_with (first
            | (go_at_call 23; refine HFd.out.mono ?_; rintro e w18 ⟨rfl, hb18⟩)
            | (go_at_call 13; refine (HAw.out _).mono ?_; rintro e w19 ⟨rfl, hb19⟩))
          go_returns
          exact ⟨rfl, HEnd.out.trans ((hb18.trans (hb19.mono hb18.size)).mono HEnd.out.size)⟩
end Go.Proofs.Ytjfpanamkkdebaa
