/- A log and the document's, side by side: the pair in memory, and made.
   A deed done to a log and to the document's: the walk.
   Have both the same? The walk.
   What came in: deeds, texts, and how the power goes. -/
import Derived.Test.YtjfpanamkkdebaaMaM
import Derived.Test.YtjfpanamkkdebaaMaA
import Derived.Deep.Slices
import Derived.Deep.Fields
import Derived.ChangeSame
namespace Go.Proofs.Ytjfpanamkkdebaa
open Go.RowKit
set_option linter.unusedVariables false
set_option linter.unusedSimpArgs false
structure PairAt (w : World) (p l g k m c r : Nat) (q qr : Option Nat) (L : Lg) (x : RL) : Prop where
  blk : w.heap[p]? = some (.cells #[.pointer (some ⟨g, 0, none⟩), .pointer (some ⟨l, 0, none⟩), .pointer (some ⟨r, 0, none⟩)] 52 (0, 0))
  log : JLog w l g k m c q L
  its : RLog w r qr x
  apart : ∀ j, q = some j → qr ≠ some j
theorem JLog.blk {w : World} {l g k m c : Nat} {q : Option Nat} {L : Lg} (h : JLog w l g k m c q L) : ∃ cs, w.heap[l]? = some (.cells cs 65 (0, 0)) := by
  obtain ⟨vs, rv, rs, hlg, _⟩ := h
  obtain ⟨bv, hc, _⟩ := hlg.cells
  exact ⟨_, hc.blk⟩
theorem JLog.row {w : World} {l g k m c : Nat} {q : Option Nat} {L : Lg} (h : JLog w l g k m c q L) : ∀ j, q = some j → ∃ cs, w.heap[j]? = some (.cells cs 29 (0, 0)) := by
  obtain ⟨vs, rv, rs, hlg, _, hr, _, hq⟩ := h
  intro j hj
  exact hr.1.blk j (by rw [hq, hj])
theorem RLog.blk {w : World} {r : Nat} {q : Option Nat} {x : RL} (h : RLog w r q x) : ∃ cs, w.heap[r]? = some (.cells cs 72 (0, 0)) := by
  obtain ⟨sv, rv, rs, hc, _⟩ := h
  exact ⟨_, hc.blk⟩
theorem RLog.row {w : World} {r : Nat} {q : Option Nat} {x : RL} (h : RLog w r q x) : ∀ j, q = some j → ∃ cs, w.heap[j]? = some (.cells cs 29 (0, 0)) := by
  obtain ⟨sv, rv, rs, hc, _, hr, _, hq⟩ := h
  intro j hj
  exact hr.1.blk j (by rw [hq, hj])
/-- A block of another kind is none of a log's. -/
theorem JLog.apart {w : World} {l g k m c : Nat} {q : Option Nat} {L : Lg} (h : JLog w l g k m c q L) {j : Nat} {cs : Array Value} {e : TypeId} {f : Nat × Nat} (hj : w.heap[j]? = some (.cells cs e f)) (h1 : e ≠ 81) (h2 : e ≠ 9) (h3 : e ≠ 65) : j ∉ [l, g, k, m] := by
  intro hm
  rcases List.mem_cons.1 hm with rfl | hm
  · obtain ⟨cs', h'⟩ := h.blk
    rw [h'] at hj
    injection hj with hj
    injection hj with _ hj
    exact h3 hj.symm
  · exact h.dk.apart hj h1 h2 hm
theorem row_apart {w : World} {q : Option Nat} (h : ∀ j, q = some j → ∃ cs, w.heap[j]? = some (.cells cs 29 (0, 0))) {j : Nat} {cs : Array Value} {e : TypeId} {f : Nat × Nat} (hj : w.heap[j]? = some (.cells cs e f)) (h1 : e ≠ 29) : j ∉ q.toList := by
  intro hm
  cases q with
  | none => cases hm
  | some i =>
    have : j = i := by simpa using hm
    subst this
    obtain ⟨cs', h'⟩ := h j rfl
    rw [h'] at hj
    injection hj with hj
    injection hj with _ hj
    exact h1 hj.symm
theorem row_old {w : World} {q : Option Nat} (h : ∀ j, q = some j → ∃ cs, w.heap[j]? = some (.cells cs 29 (0, 0))) : ∀ j, q = some j → j < w.heap.size := fun j hj => by obtain ⟨cs, hc⟩ := h j hj; exact blk_lt hc
theorem RLog.disk {w w' : World} {r g k m c : Nat} {q : Option Nat} {x : RL} {d : Dsk} (hx : RLog w r q x) (hd : DkAt w g k m c d) (ho : Only w w' [g, k, m]) : RLog w' r q x := by
  obtain ⟨rc, hrb⟩ := hx.blk
  refine hx.only ho (hd.apart hrb (by decide) (by decide)) ?_ ?_
  · rintro j cs e f hj rfl
    exact hd.apart hj (by decide) (by decide)
  · intro j hj
    obtain ⟨cs, hc⟩ := hx.row j hj
    exact hd.apart hc (by decide) (by decide)
theorem blk_not {w : World} {p j : Nat} {cs cs' : Array Value} {t e : TypeId} {f f' : Nat × Nat} (hp : w.heap[p]? = some (.cells cs t f)) (hj : w.heap[j]? = some (.cells cs' e f')) (he : e ≠ t) : j ∉ [p] := by
  intro hm
  rw [List.mem_singleton.1 hm, hp] at hj
  injection hj with hj
  injection hj with _ hj
  exact he hj.symm
theorem RLog.beside {w w' : World} {r p : Nat} {q : Option Nat} {x : RL} {cs : Array Value} {t : TypeId} {f : Nat × Nat} (hx : RLog w r q x) (hp : w.heap[p]? = some (.cells cs t f)) (h1 : t ≠ 72) (h2 : t ≠ 5) (h3 : t ≠ 29) (ho : Only w w' [p]) : RLog w' r q x := by
  obtain ⟨rc, hrb⟩ := hx.blk
  refine hx.only ho (blk_not hp hrb h1.symm) ?_ ?_
  · rintro j cs e f hj rfl
    exact blk_not hp hj h2.symm
  · intro j hj
    obtain ⟨cs, hc⟩ := hx.row j hj
    exact blk_not hp hc h3.symm
theorem JLog.beside {w w' : World} {l g k m c p : Nat} {q : Option Nat} {L : Lg} {cs : Array Value} {t : TypeId} {f : Nat × Nat} (hx : JLog w l g k m c q L) (hp : w.heap[p]? = some (.cells cs t f)) (h1 : t ≠ 65) (h2 : t ≠ 5) (h3 : t ≠ 29) (h4 : t ≠ 81) (h5 : t ≠ 9) (ho : Only w w' [p]) : JLog w' l g k m c q L := by
  obtain ⟨lc, hlb⟩ := hx.blk
  obtain ⟨⟨gc, hgb⟩, ⟨kc, hkb⟩, ⟨es, cl, hmb⟩⟩ := hx.dk.objs
  refine hx.only ho (blk_not hp hlb h1.symm) (blk_not hp hgb h4.symm) (blk_not hp hkb h5.symm) ?_ ?_
  · intro hm
    rw [List.mem_singleton.1 hm, hp] at hmb
    injection hmb with hmb
    cases hmb
  · rintro j cs e f hj (rfl | rfl)
    · exact blk_not hp hj h2.symm
    · exact blk_not hp hj h3.symm
/-- Behind a deed to the log. -/
theorem PairAt.ours {w w' : World} {p l g k m c r : Nat} {q qr q' : Option Nat} {L L' : Lg} {x : RL} (h : PairAt w p l g k m c r q qr L x) (ho : Only w w' ([l, g, k, m] ++ q.toList)) (hl : JLog w' l g k m c q' L') (hq : q' = q ∨ q' = none ∨ ∃ j, q' = some j ∧ w.heap.size ≤ j) : PairAt w' p l g k m c r q' qr L' x := by
  have no : ∀ j cs (e : TypeId) f, w.heap[j]? = some (.cells cs e f) → e ≠ 81 → e ≠ 9 → e ≠ 65 → e ≠ 29 → j ∉ [l, g, k, m] ++ q.toList := by
    intro j cs e f hj h1 h2 h3 h4 hm
    rcases List.mem_append.1 hm with hm | hm
    · exact h.log.apart hj h1 h2 h3 hm
    · exact row_apart h.log.row hj h4 hm
  obtain ⟨rc, hrb⟩ := h.its.blk
  refine ⟨(ho.block p (blk_lt h.blk) (no _ _ _ _ h.blk (by decide) (by decide) (by decide) (by decide))).trans h.blk, hl, ?_, ?_⟩
  · refine h.its.only ho (no _ _ _ _ hrb (by decide) (by decide) (by decide) (by decide)) ?_ ?_
    · rintro j cs e f hj rfl
      exact no _ _ _ _ hj (by decide) (by decide) (by decide) (by decide)
    · intro j hj hm
      rcases List.mem_append.1 hm with hm | hm
      · obtain ⟨cs, hc⟩ := h.its.row j hj
        exact h.log.apart hc (by decide) (by decide) (by decide) hm
      · cases hqq : q with
        | none => rw [hqq] at hm; cases hm
        | some i =>
          rw [hqq] at hm
          have : j = i := by simpa using hm
          subst this
          exact h.apart j hqq hj
  · intro j hj hr
    rcases hq with rfl | rfl | ⟨i, rfl, hi⟩
    · exact h.apart j hj hr
    · cases hj
    · injection hj with hj
      have := row_old h.its.row j hr
      omega
/-- Behind a deed to the document's. -/
theorem PairAt.itss {w w' : World} {p l g k m c r : Nat} {q qr q' : Option Nat} {L : Lg} {x x' : RL} (h : PairAt w p l g k m c r q qr L x) (ho : Only w w' [r]) (hl : RLog w' r q' x') (hq : q' = qr ∨ q' = none ∨ ∃ j, q' = some j ∧ w.heap.size ≤ j) : PairAt w' p l g k m c r q q' L x' := by
  obtain ⟨rc, hrb⟩ := h.its.blk
  have no : ∀ j cs (e : TypeId) f, w.heap[j]? = some (.cells cs e f) → e ≠ 72 → j ∉ [r] := by
    intro j cs e f hj h1 hm
    rw [List.mem_singleton.1 hm, hrb] at hj
    injection hj with hj
    injection hj with _ hj
    exact h1 hj.symm
  obtain ⟨lc, hlb⟩ := h.log.blk
  obtain ⟨⟨gc, hgb⟩, ⟨kc, hkb⟩, ⟨es, cl, hmb⟩⟩ := h.log.dk.objs
  refine ⟨(ho.block p (blk_lt h.blk) (no _ _ _ _ h.blk (by decide))).trans h.blk, ?_, hl, ?_⟩
  · refine h.log.only ho (no _ _ _ _ hlb (by decide)) (no _ _ _ _ hgb (by decide)) (no _ _ _ _ hkb (by decide)) ?_ ?_
    · intro hm
      rw [List.mem_singleton.1 hm, hrb] at hmb
      injection hmb with hmb
      cases hmb
    · rintro j cs e f hj (rfl | rfl)
      · exact no _ _ _ _ hj (by decide)
      · exact no _ _ _ _ hj (by decide)
  · intro j hj hr
    rcases hq with rfl | rfl | ⟨i, rfl, hi⟩
    · exact h.apart j hj hr
    · cases hr
    · injection hr with hr
      have := row_old h.log.row j hj
      omega
theorem PairAt.below {w w' : World} {p l g k m c r : Nat} {q qr : Option Nat} {L : Lg} {x : RL} (h : PairAt w p l g k m c r q qr L x) (hb : Below w.heap.size w w') : PairAt w' p l g k m c r q qr L x :=
  ⟨(hb.block p (blk_lt h.blk)).trans h.blk, h.log.below hb, h.its.below hb, h.apart⟩
theorem PairAt.lt {w : World} {p l g k m c r : Nat} {q qr : Option Nat} {L : Lg} {x : RL} (h : PairAt w p l g k m c r q qr L x) : p < w.heap.size ∧ l < w.heap.size ∧ g < w.heap.size ∧ k < w.heap.size ∧ m < w.heap.size ∧ r < w.heap.size :=
  ⟨blk_lt h.blk, h.log.lt, h.log.dk.lt.1, h.log.dk.lt.2.1, h.log.dk.lt.2.2, h.its.lt⟩
/-- .. in blocks from B on. -/
def PairS (B : Nat) (w : World) (p g k m c r : Nat) (L : Lg) (x : RL) : Prop := ∃ l q qr, PairAt w p l g k m c r q qr L x ∧ ∀ i ∈ [p, l, g, k, m, r] ++ q.toList, B ≤ i
theorem PairS.below {B : Nat} {w w' : World} {p g k m c r : Nat} {L : Lg} {x : RL} (h : PairS B w p g k m c r L x) (hb : Below w.heap.size w w') : PairS B w' p g k m c r L x := by
  obtain ⟨l, q, qr, h1, h2⟩ := h
  exact ⟨l, q, qr, h1.below hb, h2⟩
theorem format_e (n : Nat) (sn : List UInt8) : (RL.format n sn).1 = 0 ∨ (RL.format n sn).1 = 1 ∨ (RL.format n sn).1 = 8 := by
  unfold RL.format RL.lay
  split
  · simp
  · split <;> simp
set_option maxHeartbeats 1600000 in
theorem made_any (n : Nat) (As : Option Addr) (cs : Nat) (sn : List UInt8) (w : World) (h8 : 8 ≤ n) (hn : n ≤ 4096) (hs : RB w As sn) (hAs : As = none → cs = 0) (hsc : sn.length ≤ cs) (hsm : sn.length ≤ 9223372036854775807) (hA : ∀ a, As = some a → sn ≠ [] → a.block < w.heap.size) :
    Calls Try.prog 18 #[.int .i64 n, .slice As sn.length cs] w fun e w' => ∃ pv, e = .returned (.tuple #[pv, .bool true]) ∧ Below w.heap.size w w' ∧
      (((RL.format n sn).1 ≠ 0 ∧ pv = .pointer none) ∨
       ((RL.format n sn).1 = 0 ∧ ∃ p g k m c r, pv = .pointer (some ⟨p, 0, none⟩) ∧ PairS w.heap.size w' p g k m c r (formatLg (fresh n) sn) (RL.format n sn).2)) := by
  have HN := Lib.hid (new_any n w (by omega) hn)
  have HE := format_new n h8 hn sn
  have HF := Lib.hid (fun g k m w2 hd hr => format_log g k m n (fresh n) As cs sn w2 hd hr hAs hsc hsm)
  rw [HE.1] at HF
  have HR := Lib.hid (fun w2 hr => rformat_any n As cs sn w2 h8 hn hr hAs hsm)
  have hee := format_e n sn
  have HS := Lib.hid hs
  have HL := Lib.hid HE.2
  have HFm : Hid (∀ g k m (w2 : World), DkAt w2 g k m n (formatP (fresh n) sn).d → True) := fun _ _ _ _ _ => trivial
  obtain ⟨R, hR⟩ : ∃ R, RL.format n sn = R := ⟨_, rfl⟩
  rw [hR] at HF HR hee ⊢
  clear hs HE hR HL HFm
  obtain ⟨e0, x0⟩ := R
  dsimp only at HF HR hee ⊢
  go_enter Try.func18, Try.ntmps18
  go_wp2_with fail
  refine HN.out.mono ?_
  rintro e w1 ⟨g, k, m, rfl, hd1, hb1, g1, g2, g3⟩
  go_wp2_with fail
  refine (HF.out g k m w1 hd1 (Lies.below HS.out hb1)).mono ?_
  rintro e w2 ⟨pv, rfl, hd2, ho2, h2⟩
  have hs1 := hb1.size
  have hb2 : Below w.heap.size w1 w2 := ho2.below (by simp; omega) hs1
  have hb02 := hb1.trans hb2
  go_wp2_with fail
  refine (HR.out w2 (Lies.below HS.out hb02)).mono ?_
  rintro e w3 ⟨pv2, rfl, hb3, h3⟩
  have hb03 := hb02.trans (hb3.mono hb02.size)
  have q1 : ((e0 : Int) != (e0 : Int)) = false := by simp
  by_cases h0 : e0 = 0
  · subst h0
    rcases h2 with ⟨h2, _⟩ | ⟨_, l, rfl, hl, hj⟩
    · exact absurd rfl h2
    rcases h3 with ⟨h3, _⟩ | ⟨_, r, rfl, hr, hx⟩
    · exact absurd rfl h3
    have hjj := hj.below hb3
    have hs2 := hb2.size
    have hs3 := hb3.size
    have hlt := hjj.lt
    have hlt2 := hjj.dk.lt
    have hrl := hx.lt
    have HX := Lib.hid (⟨hjj, hx, hb03⟩ : _ ∧ _ ∧ _)
    clear hj hx hjj hd1 hd2 ho2 hb1 hb2 hb3 hb02 hb03 HN HF HR HS hee
    go_wp2_with fail
    go_returns
    have hbA : Below w3.heap.size w3 (w3.alloc (.cells #[.pointer (some ⟨g, 0, none⟩), .pointer (some ⟨l, 0, none⟩), .pointer (some ⟨r, 0, none⟩)] 52)) := (Below.refl _ _).alloc (Nat.le_refl _) _
    obtain ⟨hjj, hx, hb03⟩ := HX.out
    have hS : PairS w.heap.size (w3.alloc (.cells #[.pointer (some ⟨g, 0, none⟩), .pointer (some ⟨l, 0, none⟩), .pointer (some ⟨r, 0, none⟩)] 52)) w3.heap.size g k m n r (formatLg (fresh n) sn) x0 := by
      refine ⟨l, none, none, ⟨heap_alloc_new w3 _, hjj.below hbA, hx.below hbA, fun j hj => by cases hj⟩, ?_⟩
      intro i hi
      simp at hi
      omega
    exact ⟨_, rfl, hb03.trans (hbA.mono hb03.size), by first | exact ⟨_, rfl, _, _, _, _, _, hS⟩ | exact .inr ⟨rfl, _, _, _, _, _, _, rfl, hS⟩⟩
  · rcases h2 with ⟨_, rfl⟩ | ⟨h2, _⟩
    rotate_left
    · exact absurd h2 h0
    rcases h3 with ⟨_, rfl⟩ | ⟨h3, _⟩
    rotate_left
    · exact absurd h3 h0
    clear hd1 hd2 ho2 hb1 hb2 hb3 hb02 HN HF HR HS hee
    go_wp2_with fail
    go_returns
    exact ⟨_, rfl, hb03, .inl ⟨h0, rfl⟩⟩
end Go.Proofs.Ytjfpanamkkdebaa
namespace Go.Proofs.Ytjfpanamkkdebaa
open Go.RowKit
set_option linter.unusedVariables false
set_option linter.unusedSimpArgs false
theorem RB.takeN {w : World} {A : Option Addr} {bs : List UInt8} (h : RB w A bs) (n : Nat) : RB w A (bs.take n) := by
  intro i v hi
  rw [List.map_take, List.getElem?_take] at hi
  split at hi
  · exact h i v hi
  · cases hi
/-- What holds of a log and the document's, alike, while no fuse is set. -/
structure Alike (K N : Nat) (L : Lg) (x : RL) : Prop where
  inv : LInv K L
  bound : L.d.bound = false
  rel : Rel L x
  len : L.d.kept.length = N
theorem Alike.mono {K K' N : Nat} {L : Lg} {x : RL} (h : Alike K N L x) (hk : K ≤ K') : Alike K' N L x := ⟨h.inv.mono hk, h.bound, h.rel, h.len⟩
theorem Alike.small {K N : Nat} {L : Lg} {x : RL} (h : Alike K N L x) : x.pages ≤ 1000000 ∧ x.page ≤ 1000000 ∧ x.fill ≤ 1000 ∧ x.recs.length ≤ 1000000 ∧ x.snap.length ≤ 262144 ∧ (∀ y ∈ x.recs, y.length ≤ 262144) ∧ (allP x.snap x.recs).length ≤ 1000000 ∧ L.snap.length ≤ 262144 ∧ (∀ y ∈ L.recs, y.length ≤ 262144) ∧ L.recs.length ≤ 1000000 := by
  obtain ⟨f1, f2, f3, f4⟩ := h.inv.few
  have hr := h.inv.roomPos
  have hR := h.rel
  refine ⟨by rw [hR.pages]; omega, by rw [hR.page]; omega, by rw [hR.fill]; omega, by rw [hR.recs]; exact f1, by rw [hR.snap]; exact h.inv.snapl, by rw [hR.recs]; exact h.inv.recl, by rw [hR.snap, hR.recs]; omega, h.inv.snapl, h.inv.recl, f1⟩
/-- Which deed. -/
def opOf (op : Int) : Int := (IntKind.u64.wrap op).tmod 6
set_option maxRecDepth 100000 in
set_option maxHeartbeats 3200000 in
theorem jdoes_any (B p g k m c r K N : Nat) (L : Lg) (x : RL) (op : Int) (A : Option Addr) (cc : Nat) (b0 : List UInt8) (w : World) (h : PairS B w p g k m c r L x) (ha : Alike K N L x) (hK : K + 1 < 256)
    (hr : RB w A b0) (hcc : b0.length ≤ cc) (hA0 : A = none → cc = 0) (hl : b0.length ≤ 9223372036854775807) (hA : ∀ a, A = some a → b0 ≠ [] → a.block < B) (hB : B ≤ w.heap.size) :
    Calls Try.prog 19 #[.pointer (some ⟨p, 0, none⟩), .agg #[.int .i64 op, .slice A b0.length cc]] w fun e w' => e = .returned (.bool true) ∧ ∃ L' x', PairS B w' p g k m c r L' x' ∧ Alike (K + 1) N L' x' ∧ Below B w w' := by
  obtain ⟨l, q, qr, hP, hbl⟩ := h
  obtain ⟨n, hq1, hq2⟩ : ∃ n : Nat, (if (600 : Int) < (b0.length : Int) then 600 else (b0.length : Int)) = (n : Int) ∧ n = (b0.take 600).length := ⟨(b0.take 600).length, by rw [List.length_take]; split <;> omega, rfl⟩
  have hq0 : (0 : Int) ≤ (n : Int) := by omega
  have hq3 : (n : Int) ≤ (cc : Int) := by rw [List.length_take] at hq2; omega
  have hb0 : Below w.heap.size w (w.alloc (.cells #[.int .i64 op, .slice A b0.length cc] 48)) := (Below.refl _ _).alloc (Nat.le_refl _) _
  have hP1 := hP.below hb0
  have hR1 := (hr.takeN 600).below hb0
  have hA1 : ∀ a, A = some a → b0.take 600 ≠ [] → a.block < B := fun a e hne => hA a e (fun e2 => hne (by rw [e2]; rfl))
  have hx0 : (w.alloc (.cells #[.int .i64 op, .slice A b0.length cc] 48)).cell? ⟨w.heap.size, 0, none⟩ = some (.int .i64 op) := by go_cell
  have hx1 : (w.alloc (.cells #[.int .i64 op, .slice A b0.length cc] 48)).cell? ⟨w.heap.size, 1, none⟩ = some (.slice A b0.length cc) := by go_cell
  have hsz : (w.alloc (.cells #[.int .i64 op, .slice A b0.length cc] 48)).heap.size = w.heap.size + 1 := by simp
  obtain ⟨b, hb⟩ : ∃ b, b0.take 600 = b := ⟨_, rfl⟩
  rw [hb] at hq2 hR1 hA1
  have hb600 : b.length ≤ 600 := by rw [← hb, List.length_take]; omega
  have hncc : b.length ≤ cc := by omega
  clear hr hA hP hb
  obtain ⟨md, hmd⟩ : ∃ md, (IntKind.u64.wrap op).tmod 6 = md := ⟨_, rfl⟩
  have hq4 : min (b0.length : Int) 600 = (n : Int) := by rw [← hq1]; split <;> omega
  obtain ⟨s1, s2, s3, s4, s5, s6, s7, s8, s9, s10⟩ := ha.small
  have hfit := ha.inv.fit (by omega)
  obtain ⟨L0, hL0⟩ : ∃ L0, L0 = b0.length := ⟨_, rfl⟩
  rw [← hL0] at hcc hl hq1 hq4 hx0 hx1 hsz hb0 hP1 hR1 ⊢
  have hp1 : (w.alloc (.cells #[.int .i64 op, .slice A L0 cc] 48)).cell? ⟨p, 1, none⟩ = some (.pointer (some ⟨l, 0, none⟩)) := blk_cell hP1.blk
  have hp2 : (w.alloc (.cells #[.int .i64 op, .slice A L0 cc] 48)).cell? ⟨p, 2, none⟩ = some (.pointer (some ⟨r, 0, none⟩)) := blk_cell hP1.blk
  have hp0 : (w.alloc (.cells #[.int .i64 op, .slice A L0 cc] 48)).cell? ⟨p, 0, none⟩ = some (.pointer (some ⟨g, 0, none⟩)) := blk_cell hP1.blk
  have HA1 := Lib.hid hA1
  have HQ2 := Lib.hid hq2
  have HBd := Lib.hid ha.bound
  have HRel := Lib.hid ha.rel
  have HInv := Lib.hid ha.inv
  have HLen := Lib.hid ha.len
  have HP := Lib.hid hP1
  have HB := Lib.hid (hb0.mono hB)
  have HBl := Lib.hid hbl
  have HBs := Lib.hid hsz
  have HRB := Lib.hid hR1
  clear ha hb0 hP1 hR1 hA1 hq2 hL0 hsz hbl
  by_cases e3 : md = 3
  · have hmq : ((IntKind.u64.wrap op).tmod 6 == 3) = true := by rw [hmd, beq_iff_eq]; exact e3
    obtain ⟨j1, j2, j3, j4, j5⟩ := play_sync HInv.out (by omega) HBd.out HRel.out
    have HX := Lib.hid (rsync_any r qr x _ HP.out.its s2)
    have HL := Lib.hid (fun w2 hh => lsync_any l g k m c q L w2 hh hfit)
    rw [j1] at HL
    have HJ := Lib.hid (⟨j2, j3, j4, j5⟩ : _ ∧ _ ∧ _ ∧ _)
    clear hmd e3 j1 j2 j3 j4 j5
    go_enter Try.func19, Try.ntmps19
    go_wp2_with fail
    refine HX.out.mono ?_
    rintro e w1 ⟨rfl, hx', ho1⟩
    have hP2 := HP.out.itss ho1 hx' (.inl rfl)
    have hb1 : Below B _ w1 := ho1.below (B := B) (by intro i hi; exact HBl.out i (by simp at hi ⊢; simp [hi])) (by rw [HBs.out]; omega)
    have hp1' : w1.cell? ⟨p, 1, none⟩ = some (.pointer (some ⟨l, 0, none⟩)) := blk_cell hP2.blk
    have HP2 := Lib.hid hP2
    have HB2 := Lib.hid (HB.out.trans hb1)
    have HW := Lib.hid ho1.size
    clear hP2 hb1 ho1 hx'
    go_wp2_with fail
    refine (HL.out w1 HP2.out.log).mono ?_
    rintro e w2 ⟨rfl, hl', ho2⟩
    have hP3 := HP2.out.ours (ho2.mono (by intro i hi; exact List.mem_append_left _ hi)) hl' (.inl rfl)
    have hb2 : Below B w1 w2 := ho2.below (B := B) (by intro i hi; exact HBl.out i (by simp at hi ⊢; rcases hi with h | h | h | h <;> simp [h])) (by have := HW.out; rw [HBs.out] at this; omega)
    go_wp2_with fail
    go_returns
    obtain ⟨j2, j3, j4, j5⟩ := HJ.out
    exact ⟨rfl, _, _, ⟨l, q, qr, hP3, HBl.out⟩, ⟨j3.mono (by omega), j4, j2, j5.trans HLen.out⟩, HB2.out.trans hb2⟩
  · by_cases e4 : md = 4
    · have hmq : ((IntKind.u64.wrap op).tmod 6 == 3) = false := by rw [hmd, beq_eq_false_iff_ne]; exact e3
      have hmr : ((IntKind.u64.wrap op).tmod 6 == 4) = true := by rw [hmd, beq_iff_eq]; exact e4
      obtain ⟨j1, j2, j3, j4, j5⟩ := play_save HInv.out hK HBd.out HRel.out b
      have HL := Lib.hid (fun w2 hh hr2 => save_any l g k m c q L A cc b w2 hh hfit hr2 hA0 hncc (by omega))
      have HX := Lib.hid (fun w2 hh hr2 => rsave_any r qr x A cc b w2 hh s1 hr2 hA0 (by omega))
      rw [j1, ← HQ2.out] at HL
      rw [← HQ2.out] at HX
      have HJ := Lib.hid (⟨j2, j3, j4, j5⟩ : _ ∧ _ ∧ _ ∧ _)
      obtain ⟨E, hE⟩ : ∃ E, (x.save b).1 = E := ⟨_, rfl⟩
      rw [hE] at HX HL
      clear hmd e3 e4 j1 j2 j3 j4 j5 hE
      go_enter Try.func19, Try.ntmps19
      go_wp2_with fail
      generalize w.alloc (.cells #[.int .i64 op, .slice A L0 cc] 48) = W0 at *
      have hdr : Below W0.heap.size W0 W0.drew := (Below.refl _ _).drew
      have hPD := HP.out.below hdr
      have HPD := Lib.hid hPD
      have HRD := Lib.hid HRB.out.drew
      have hs0 : B ≤ W0.drew.heap.size := by have := HBs.out; show B ≤ W0.heap.size; omega
      have HS0 := Lib.hid hs0
      have HBD := Lib.hid (HB.out.trans (hdr.mono hs0))
      have hd1 : W0.drew.cell? ⟨p, 1, none⟩ = some (.pointer (some ⟨l, 0, none⟩)) := hp1
      have hd2 : W0.drew.cell? ⟨p, 2, none⟩ = some (.pointer (some ⟨r, 0, none⟩)) := hp2
      have HNo : Hid (∀ a, A = some a → b ≠ [] → a.block ∉ [l, g, k, m]) := fun a e hne hm => by
        have h1 := HA1.out a e hne
        have h2 := HBl.out a.block (by simp at hm ⊢; rcases hm with h | h | h | h <;> simp [h])
        omega
      clear hPD hs0 hdr
      go_region_held3 (fun w' => w'.cell? ⟨p, 1, none⟩ = some (.pointer (some ⟨l, 0, none⟩)) ∧ w'.cell? ⟨p, 2, none⟩ = some (.pointer (some ⟨r, 0, none⟩))) (first | exact ⟨hp1, hp2⟩ | exact ⟨hd1, hd2⟩ | exact ⟨hd1', hd2'⟩ | exact ⟨he1', he2'⟩) (first
        | (go_at_call 26; refine (HL.out _ HPD.out.log HRD.out).mono ?_; rintro e w1 ⟨rfl, ⟨q', hl1, hq1'⟩, ho1⟩; have hPS := HPD.out.ours (ho1.mono (fun i hi => List.mem_append_left _ hi)) hl1 (hq1'.imp id .inl); have hRS := HRD.out.only ho1 HNo.out; have hd1' : w1.cell? ⟨p, 1, none⟩ = some (.pointer (some ⟨l, 0, none⟩)) := blk_cell hPS.blk; have hd2' : w1.cell? ⟨p, 2, none⟩ = some (.pointer (some ⟨r, 0, none⟩)) := blk_cell hPS.blk)
        | (go_at_call 43; refine (HX.out _ hPS.its hRS).mono ?_; rintro e w2 ⟨rfl, ho2, qr', hx2, hqr⟩; have hPT := hPS.itss ho2 hx2 (hqr.imp id .inl); have he1' : w2.cell? ⟨p, 1, none⟩ = some (.pointer (some ⟨l, 0, none⟩)) := blk_cell hPT.blk; have he2' : w2.cell? ⟨p, 2, none⟩ = some (.pointer (some ⟨r, 0, none⟩)) := blk_cell hPT.blk))
      go_wp2_with fail
      go_returns
      have hb1 : Below B W0.drew w1 := ho1.below (B := B) (by intro i hi; exact HBl.out i (by simp at hi ⊢; rcases hi with h | h | h | h <;> simp [h])) HS0.out
      have hb2 : Below B w1 w2 := ho2.below (B := B) (by intro i hi; exact HBl.out i (by simp at hi ⊢; simp [hi])) (Nat.le_trans HS0.out ho1.size)
      obtain ⟨j2, j3, j4, j5⟩ := HJ.out
      refine ⟨by first | rfl | simp, _, _, ⟨l, q', qr', hPT, ?_⟩, ⟨j3, j4, j2, j5.trans HLen.out⟩, HBD.out.trans (hb1.trans hb2)⟩
      intro i hi
      rcases hq1' with rfl | rfl
      · exact HBl.out i hi
      · exact HBl.out i (by simp at hi ⊢; rcases hi with h | h | h | h | h | h <;> simp [h])
    · by_cases e5 : md = 5
      · have hmq : ((IntKind.u64.wrap op).tmod 6 == 3) = false := by rw [hmd, beq_eq_false_iff_ne]; exact e3
        have hmr : ((IntKind.u64.wrap op).tmod 6 == 4) = false := by rw [hmd, beq_eq_false_iff_ne]; exact e4
        have hms : ((IntKind.u64.wrap op).tmod 6 == 5) = true := by rw [hmd, beq_iff_eq]; exact e5
        obtain ⟨j0, j1, j2, j3, j4, j5⟩ := play_open HInv.out hK HBd.out HRel.out
        have HL := Lib.hid (fun w2 hh => open_log g k m c L.d w2 hh)
        have HX := Lib.hid (fun w2 hh => ropen_any r qr x w2 hh s1 (by omega) (fun y hy => by have := s6 y hy; omega) (by omega))
        rw [j0] at HL
        rw [j1] at HX
        have HJ := Lib.hid (⟨j2, j3, j4, j5⟩ : _ ∧ _ ∧ _ ∧ _)
        clear hmd e3 e4 e5 j0 j1 j2 j3 j4 j5
        go_enter Try.func19, Try.ntmps19
        go_wp2_with fail
        generalize w.alloc (.cells #[.int .i64 op, .slice A L0 cc] 48) = W0 at *
        refine (HL.out W0 HP.out.log.dk).mono ?_
        rintro e w1 ⟨pv, rfl, hd1, ho1, h1⟩
        rcases h1 with ⟨h1, _⟩ | ⟨_, y, q', rfl, hy, hj1, _, hqn⟩
        · exact absurd rfl h1
        have hsz1 : B ≤ W0.heap.size := by have := HBs.out; omega
        have hr1 := HP.out.its.disk HP.out.log.dk ho1
        have hpb := (ho1.block p (blk_lt HP.out.blk) (HP.out.log.dk.apart HP.out.blk (by decide) (by decide))).trans HP.out.blk
        have hp2' : w1.cell? ⟨p, 2, none⟩ = some (.pointer (some ⟨r, 0, none⟩)) := blk_cell hpb
        have hb1 : Below B W0 w1 := ho1.below (B := B) (by intro i hi; exact HBl.out i (by simp at hi ⊢; rcases hi with h | h | h <;> simp [h])) hsz1
        have hqr : ∀ j, q' = some j → qr ≠ some j := fun j hj hr => by
          have h1 := hqn j hj
          have h2 := row_old HP.out.its.row j hr
          omega
        have H1 := Lib.hid (⟨hj1, hr1, hpb, HB.out.trans hb1, Nat.le_trans hsz1 ho1.size⟩ : _ ∧ _ ∧ _ ∧ _ ∧ _)
        have hyB : B ≤ y := Nat.le_trans hsz1 hy
        have HQN : Hid (∀ j, q' = some j → B ≤ j) := fun j hj => Nat.le_trans hsz1 (hqn j hj)
        clear hd1 ho1 hj1 hr1 hpb hb1 hqn hsz1 HL HP
        go_wp2_with fail
        refine (HX.out w1 H1.out.2.1).mono ?_
        rintro e w2 ⟨rfl, ho2, hr2⟩
        obtain ⟨hj1, hr1, hpb, hb1, hs1⟩ := H1.out
        obtain ⟨rc, hrb⟩ := hr1.blk
        have hj2 := hj1.beside hrb (by decide) (by decide) (by decide) (by decide) (by decide) ho2
        have hpb2 := (ho2.block p (blk_lt hpb) (blk_not hrb hpb (by decide))).trans hpb
        have hb2 : Below B w1 w2 := ho2.below (B := B) (by intro i hi; exact HBl.out i (by simp at hi ⊢; simp [hi])) hs1
        have hfp : w2.frozen? ⟨p, 1, none⟩ = false := blk_free hpb2
        have hcp : w2.cell? ⟨p, 1, none⟩ = some (.pointer (some ⟨l, 0, none⟩)) := blk_cell hpb2
        have H2 := Lib.hid (⟨hj2, hr2, hpb2, hb1.trans hb2, Nat.le_trans hs1 ho2.size⟩ : _ ∧ _ ∧ _ ∧ _ ∧ _)
        clear ho2 hr2 hj1 hr1 hpb hb1 hs1 hrb hj2 hpb2 hb2 H1 HX
        go_wp2_with fail
        go_returns
        obtain ⟨hj2, hr2, hpb2, hb2, hs2⟩ := H2.out
        have hoS := Only.of_grown (Lib.grownBy_setCell w2 p 1 (.pointer (some ⟨y, 0, none⟩)))
        have hb3 : Below B w2 (w2.setCell ⟨p, 1, none⟩ (.pointer (some ⟨y, 0, none⟩))) := hoS.below (B := B) (by intro i hi; exact HBl.out i (by simp at hi ⊢; simp [hi])) hs2
        obtain ⟨j2, j3, j4, j5⟩ := HJ.out
        refine ⟨rfl, _, _, ⟨y, q', qr, ⟨heap_setCell_same _ _ 1 _ _ (.pointer (some ⟨y, 0, none⟩)) hpb2, hj2.beside hpb2 (by decide) (by decide) (by decide) (by decide) (by decide) hoS, hr2.beside hpb2 (by decide) (by decide) (by decide) hoS, hqr⟩, ?_⟩, ⟨j3, j4, j2, j5.trans HLen.out⟩, hb2.trans hb3⟩
        intro i hi
        rcases List.mem_append.1 hi with hi | hi
        · rcases List.mem_cons.1 hi with rfl | hi
          · exact HBl.out _ (by simp)
          · rcases List.mem_cons.1 hi with rfl | hi
            · exact hyB
            · exact HBl.out _ (by simp at hi ⊢; rcases hi with h | h | h | h <;> simp [h])
        · exact HQN.out i (by simpa using hi)
      · have hmq : ((IntKind.u64.wrap op).tmod 6 == 3) = false := by rw [hmd, beq_eq_false_iff_ne]; exact e3
        have hmr : ((IntKind.u64.wrap op).tmod 6 == 4) = false := by rw [hmd, beq_eq_false_iff_ne]; exact e4
        have hms : ((IntKind.u64.wrap op).tmod 6 == 5) = false := by rw [hmd, beq_eq_false_iff_ne]; exact e5
        obtain ⟨j0, j1, j2, j3, j4, j5⟩ := play_append HInv.out hK HBd.out HRel.out b
        have HNo : Hid (∀ i ∈ [p, l, g, k, m, r] ++ q.toList, ∀ a, A = some a → b ≠ [] → a.block ≠ i) := fun i hi a e hne hm => by
          have h1 := HA1.out a e hne
          have h2 := HBl.out i hi
          omega
        have HL := Lib.hid (fun w2 hh hr2 => append_any l g k m c q L A cc b w2 hh hfit hr2 hA0 hncc (by omega) (fun a e hne hm => HNo.out a.block (by simp at hm ⊢; rcases hm with h | h | h | h <;> simp [h]) a e hne rfl))
        have HX := Lib.hid (fun w2 hh hr2 => rappend_any r qr x A cc b w2 hh s1 s2 s3 s4 hr2 hA0 (fun a e hne hm => HNo.out r (by simp) a e hne hm) (by omega))
        rw [← HQ2.out, j0, j1] at HL
        rw [← HQ2.out] at HX
        have HJ := Lib.hid (⟨j2, j3, j4, j5⟩ : _ ∧ _ ∧ _ ∧ _)
        obtain ⟨E1, hE1⟩ : ∃ E, (x.app b).1 = E := ⟨_, rfl⟩
        obtain ⟨E2, hE2⟩ : ∃ E, (x.app b).2.1 = E := ⟨_, rfl⟩
        rw [hE1, hE2] at HX HL
        clear hmd e3 e4 e5 j0 j1 j2 j3 j4 j5 hE1 hE2
        go_enter Try.func19, Try.ntmps19
        go_wp2_with fail
        generalize w.alloc (.cells #[.int .i64 op, .slice A L0 cc] 48) = W0 at *
        refine (HL.out W0 HP.out.log HRB.out).mono ?_
        rintro e w1 ⟨rfl, ⟨q', hl1, hq1'⟩, ho1⟩
        have hsz1 : B ≤ W0.heap.size := by have := HBs.out; omega
        have hPS := HP.out.ours (ho1.mono (by intro i hi; simp at hi ⊢; rcases hi with h | h | h | h <;> simp [h])) hl1 (hq1'.imp id .inr)
        have hRS := HRB.out.only ho1 (fun a e hne hm => HNo.out a.block (by simp at hm ⊢; rcases hm with h | h | h | h <;> simp [h]) a e hne rfl)
        have hp2' : w1.cell? ⟨p, 2, none⟩ = some (.pointer (some ⟨r, 0, none⟩)) := blk_cell hPS.blk
        have hb1 : Below B W0 w1 := ho1.below (B := B) (by intro i hi; exact HBl.out i (by simp at hi ⊢; rcases hi with h | h | h | h <;> simp [h])) hsz1
        have hqB : ∀ j, q' = some j → B ≤ j := fun j hj => by
          rcases hq1' with rfl | ⟨i, rfl, hi⟩
          · exact HBl.out j (by simp [hj])
          · injection hj with hj; omega
        have H1 := Lib.hid (⟨hPS, hRS, HB.out.trans hb1, Nat.le_trans hsz1 ho1.size, hqB⟩ : _ ∧ _ ∧ _ ∧ _ ∧ _)
        clear ho1 hPS hRS hb1 hsz1 hqB HL HP hl1 hq1'
        go_wp2_with fail
        refine (HX.out w1 H1.out.1.its H1.out.2.1).mono ?_
        rintro e w2 ⟨rfl, ho2, qr', hr2, hqr⟩
        obtain ⟨hPS, hRS, hb1, hs1, hqB⟩ := H1.out
        have hPT := hPS.itss ho2 hr2 (hqr.imp id .inr)
        have hb2 : Below B w1 w2 := ho2.below (B := B) (by intro i hi; exact HBl.out i (by simp at hi ⊢; simp [hi])) hs1
        have q1 : ((E1 : Int) == (E1 : Int)) = true := by simp
        have q2 : ((E2 : Int) == (E2 : Int)) = true := by simp
        go_wp2_with fail
        go_returns
        obtain ⟨j2, j3, j4, j5⟩ := HJ.out
        refine ⟨by first | rfl | simp, _, _, ⟨l, q', qr', hPT, ?_⟩, ⟨j3, j4, j2, j5.trans HLen.out⟩, hb1.trans hb2⟩
        intro i hi
        rcases List.mem_append.1 hi with hi | hi
        · exact HBl.out i (List.mem_append_left _ hi)
        · exact hqB i (by simpa using hi)
end Go.Proofs.Ytjfpanamkkdebaa
namespace Go.Proofs.Ytjfpanamkkdebaa
open Go.RowKit
set_option linter.unusedVariables false
set_option linter.unusedSimpArgs false
set_option maxRecDepth 100000 in
set_option maxHeartbeats 3200000 in
theorem jsame_any (B p g k m c r K N : Nat) (L : Lg) (x : RL) (w : World) (h : PairS B w p g k m c r L x) (ha : Alike K N L x) :
    Calls Try.prog 24 #[.pointer (some ⟨p, 0, none⟩)] w fun e w' => e = .returned (.bool true) ∧ Below w.heap.size w w' := by
  obtain ⟨l, q, qr, hP0, hbl⟩ := h
  have hdr : Below w.heap.size w w.drew := (Below.refl _ _).drew
  have hP := hP0.below hdr
  obtain ⟨s1, s2, s3, s4, s5, s6, s7, s8, s9, s10⟩ := ha.small
  obtain ⟨A0, c0, A1, c1, rs, hc, hs0, hA0, hr0, he0, hq0⟩ := hP.its.forms
  have hR := ha.rel
  have hrsl : rs.length ≤ 1000000 := by rw [← he0, List.length_map] at s4; exact s4
  have d1 : w.drew.cell? ⟨p, 1, none⟩ = some (.pointer (some ⟨l, 0, none⟩)) := blk_cell hP.blk
  have d2 : w.drew.cell? ⟨p, 2, none⟩ = some (.pointer (some ⟨r, 0, none⟩)) := blk_cell hP.blk
  have d3 : w.drew.cell? ⟨r, 0, none⟩ = some (.slice A0 x.snap.length c0) := blk_cell hc.blk
  have d4 : w.drew.cell? ⟨r, 1, none⟩ = some (.slice A1 rs.length c1) := blk_cell hc.blk
  have d5 : w.drew.cell? ⟨r, 2, none⟩ = some (.int .i64 x.sure) := blk_cell hc.blk
  have HKeep : Hid (∀ w2, Below w.drew.heap.size w.drew w2 → w2.cell? ⟨p, 1, none⟩ = some (.pointer (some ⟨l, 0, none⟩)) ∧ w2.cell? ⟨p, 2, none⟩ = some (.pointer (some ⟨r, 0, none⟩)) ∧ w2.cell? ⟨r, 0, none⟩ = some (.slice A0 x.snap.length c0) ∧ w2.cell? ⟨r, 1, none⟩ = some (.slice A1 rs.length c1) ∧ w2.cell? ⟨r, 2, none⟩ = some (.int .i64 x.sure)) := fun w2 hb => by
    have b1 := (hb.block p (blk_lt hP.blk)).trans hP.blk
    have b2 := (hb.block r (blk_lt hc.blk)).trans hc.blk
    exact ⟨blk_cell b1, blk_cell b1, blk_cell b2, blk_cell b2, blk_cell b2⟩
  have HSn := Lib.hid (fun w2 (hb : Below w.drew.heap.size w.drew w2) => snapshot_any l g k m c q L w2 (hP.log.below hb) (by omega))
  have HRe := Lib.hid (fun w2 (hb : Below w.drew.heap.size w.drew w2) => records_any l g k m c q L w2 (hP.log.below hb) (fun y hy => by have := s9 y hy; omega) s10)
  have HSu := Lib.hid (fun w2 (hb : Below w.drew.heap.size w.drew w2) => sure_any l g k m c q L w2 (hP.log.below hb))
  have HEq : Hid (∀ w2 (AA : Option Addr) (cA : Nat), Below w.drew.heap.size w.drew w2 → RB w2 AA L.snap → Calls Try.prog 14 #[.slice AA L.snap.length cA, .slice A0 x.snap.length c0] w2 fun e w' => e = .returned (.bool true) ∧ w2 = w') := fun w2 AA cA hb hr => by
    have he := equal_any AA A0 cA c0 L.snap x.snap w2 hr (Lies.below (RB.of_own hs0) hb)
    rw [hR.snap, beq_self_eq_true] at he
    rw [hR.snap]
    exact he
  have HSa : Hid (∀ w2 (v : Value) (qs : List RSl), Below w.drew.heap.size w.drew w2 → RecsR w2 v qs → qs.map RSl.bs = L.recs → Calls Try.prog 16 #[v, .slice A1 rs.length c1] w2 fun e w' => e = .returned (.bool true) ∧ Below w2.heap.size w2 w') := fun w2 v qs hb hr hq => by
    have hql : qs.length ≤ 1000000 := by have := congrArg List.length hq; rw [List.length_map] at this; omega
    have he := same_rd v (.slice A1 rs.length c1) qs rs w2 hr (hr0.read.below hb) hql hrsl
    rw [hq, he0, hR.recs] at he
    simpa using he
  have hsu : x.sure = L.su := hR.sure
  have q1 : ((L.su : Int) == (L.su : Int)) = true := by simp
  rw [hsu] at d5 HKeep
  have HDr := Lib.hid hdr
  have HRefl := Lib.hid (Below.refl w.drew.heap.size w.drew)
  clear hP0 hP hbl ha hc hs0 hr0 he0 hR hsu hdr s1 s2 s3 s4 s5 s6 s7 s8 s9 s10
  generalize x.snap.length = SL at *
  go_enter Try.func24, Try.ntmps24
  go_wp2_with fail
  go_region_held3 (fun w' => w'.cell? ⟨p, 1, none⟩ = some (.pointer (some ⟨l, 0, none⟩)) ∧ w'.cell? ⟨p, 2, none⟩ = some (.pointer (some ⟨r, 0, none⟩)) ∧ w'.cell? ⟨r, 0, none⟩ = some (.slice A0 SL c0) ∧ w'.cell? ⟨r, 1, none⟩ = some (.slice A1 rs.length c1) ∧ w'.cell? ⟨r, 2, none⟩ = some (.int .i64 L.su)) (first | exact ⟨d1, d2, d3, d4, d5⟩ | exact e1 | exact e3 | exact e4) (first
    | (go_at_call 15; refine (HSn.out _ HRefl.out).mono ?_; rintro e w1 ⟨v1, rfl, ho1, hb1⟩; obtain ⟨A3, c3, rfl, -⟩ := OB.form ho1; have e1 := HKeep.out w1 hb1)
    | (go_at_call 14; refine (HEq.out _ _ _ hb1 (RB.of_own ho1)).mono ?_; rintro e w2 ⟨rfl, rfl⟩)
    | (go_at_call 17; refine (HRe.out _ hb1).mono ?_; rintro e w3 ⟨v3, qs, rfl, hw3, ho3, hq3, hb3⟩; have hb13 := hb1.trans (hb3.mono hb1.size); have e3 := HKeep.out w3 hb13)
    | (go_at_call 16; refine (HSa.out _ _ qs hb13 (RecsAt.read ⟨RowFrom.of_own hw3, fun y hy => OB.mono (ho3 y hy) (Nat.zero_le _)⟩) hq3).mono ?_; rintro e w4 ⟨rfl, hb4⟩; have hb14 := hb13.trans (hb4.mono hb13.size); have e4 := HKeep.out w4 hb14)
    | (go_at_call 25; refine (HSu.out _ hb14).mono ?_; rintro e w5 ⟨rfl, rfl⟩))
  go_wp2_with fail
  go_returns
  exact ⟨by first | rfl | simp, HDr.out.trans (hb14.mono HDr.out.size)⟩
def foundP (L : Lg) (snap : List UInt8) (recs : List (List UInt8)) (least : Nat) : Bool :=
  (L.snap == snap) && (decide (least ≤ L.recs.length) && (decide (L.recs.length ≤ recs.length) && decide (L.recs = recs.take L.recs.length)))
theorem RecsR.take {w : World} {A : Option Addr} {c : Nat} {rs : List RSl} (h : RecsR w (.slice A rs.length c) rs) (n : Nat) (hn : n ≤ rs.length) : RecsR w (.slice A n c) (rs.take n) := by
  obtain ⟨A', c', e, h1, h2, h3, h4⟩ := h
  injection e with e1 e2 e3
  subst e1
  subst e3
  refine ⟨A, c, by rw [List.length_take, Nat.min_eq_left hn], by rw [List.length_take]; omega, h2, ?_, fun r hr => h4 r (List.mem_of_mem_take hr)⟩
  intro k v hk
  rw [List.map_take, List.getElem?_take] at hk
  split at hk
  · exact h3 k v hk
  · cases hk
set_option maxRecDepth 100000 in
set_option maxHeartbeats 3200000 in
theorem jfound_any (l g k m c : Nat) (q : Option Nat) (L : Lg) (S : Option Addr) (cs : Nat) (snap : List UInt8) (A : Option Addr) (cr : Nat) (rs : List RSl) (least : Nat) (w : World) (h : JLog w l g k m c q L) (hs : RB w S snap) (hr : RecsR w (.slice A rs.length cr) rs)
    (hl1 : L.snap.length ≤ 262144) (hl2 : ∀ y ∈ L.recs, y.length ≤ 262144) (hl3 : L.recs.length ≤ 1000000) (hl4 : rs.length ≤ 1000000) (hle : least ≤ 1000000) :
    Calls Try.prog 23 #[.pointer (some ⟨l, 0, none⟩), .slice S snap.length cs, .slice A rs.length cr, .int .i64 least] w fun e w' => e = .returned (.bool (foundP L snap (rs.map RSl.bs) least)) ∧ Below w.heap.size w w' := by
  have hrc : rs.length ≤ cr := by
    obtain ⟨A', c', e, h1, _⟩ := hr
    injection e with _ _ e3
    rw [e3]; exact h1
  have HRe := Lib.hid (records_any l g k m c q L w h (fun y hy => by have := hl2 y hy; omega) hl3)
  have HSn := Lib.hid (fun w2 (hb : Below w.heap.size w w2) => snapshot_any l g k m c q L w2 (h.below hb) (by omega))
  have HEq := Lib.hid (fun w2 (AA : Option Addr) (cA : Nat) (hb : Below w.heap.size w w2) (hr : RB w2 AA L.snap) => equal_any AA S cA cs L.snap snap w2 hr (Lies.below hs hb))
  have HSa : Hid (∀ w2 (v : Value) (qs : List RSl) (n : Nat), Below w.heap.size w w2 → RecsR w2 v qs → n ≤ rs.length → qs.length ≤ 1000000 → Calls Try.prog 16 #[v, .slice A n cr] w2 fun e w' => e = .returned (.bool (decide (qs.map RSl.bs = (rs.map RSl.bs).take n))) ∧ Below w2.heap.size w2 w') := fun w2 v qs n hb hq hn hql => by
    have he := same_rd v (.slice A n cr) qs (rs.take n) w2 hq ((hr.below hb).take n hn) hql (by rw [List.length_take]; omega)
    rw [List.map_take] at he
    exact he
  obtain ⟨T, hT⟩ : ∃ T, foundP L snap (rs.map RSl.bs) least = T := ⟨_, rfl⟩
  rw [hT]
  unfold foundP at hT
  rw [List.length_map] at hT
  have HT := Lib.hid hT
  clear h hs hr hT hl1 hl2
  obtain ⟨n, hn⟩ : ∃ n, L.recs.length = n := ⟨_, rfl⟩
  rw [hn] at HT
  have hl3' : n ≤ 1000000 := by omega
  have HN := Lib.hid hn
  clear hn hl3
  go_enter Try.func23, Try.ntmps23
  go_wp2_with fail
  refine HRe.out.mono ?_
  rintro e w1 ⟨v1, qs, rfl, hw1, ho1, hq1, hb1⟩
  have hql : qs.length = n := by have := congrArg List.length hq1; rw [List.length_map] at this; rw [this]; exact HN.out
  rw [hql] at hw1
  obtain ⟨A1, c1, rfl, hc1⟩ := own_form hw1
  have HR1 : Hid (∀ w2, Below w1.heap.size w1 w2 → RecsR w2 (.slice A1 n c1) qs) := fun w2 hb => by
    have h1 : RecsAt w1 (.slice A1 n c1) qs := ⟨RowFrom.of_own hw1, fun y hy => OB.mono (ho1 y hy) (Nat.zero_le _)⟩
    exact h1.read.below hb
  have HB1 := Lib.hid hb1
  have HQ1 := Lib.hid hq1
  have HQL := Lib.hid hql
  clear hw1 ho1 hb1 hq1 hql HRe
  go_wp2_with fail
  refine (HSn.out w1 HB1.out).mono ?_
  rintro e w2 ⟨v2, rfl, ho2, hb2⟩
  obtain ⟨A2, c2, rfl, -⟩ := OB.form ho2
  have HB2 := Lib.hid (HB1.out.trans (hb2.mono HB1.out.size))
  have HB12 := Lib.hid hb2
  have HE2 := Lib.hid (HEq.out w2 A2 c2 HB2.out (RB.of_own ho2))
  clear ho2 hb2 HEq HSn
  cases hb : (L.snap == snap) with
  | false =>
    rw [hb] at HE2 HT
    simp only [Bool.false_and] at HT
    clear hb
    go_wp2_with (go_at_call 14; refine HE2.out.mono ?_; rintro e w3 ⟨rfl, rfl⟩)
    go_returns
    exact ⟨by rw [← HT.out]; rfl, HB2.out⟩
  | true =>
    rw [hb] at HE2 HT
    simp only [Bool.true_and] at HT
    clear hb
    by_cases h1 : least ≤ n
    · have p0 : decide (least ≤ n) = true := decide_eq_true h1
      have p1 : decide ((n : Int) ≥ (least : Int)) = true := decide_eq_true (by omega)
      have p2 : decide ((least : Int) ≤ (n : Int)) = true := decide_eq_true (by omega)
      rw [decide_eq_true h1] at HT
      simp only [Bool.true_and] at HT
      clear h1
      by_cases h2 : n ≤ rs.length
      · have p3 : decide ((n : Int) ≤ (rs.length : Int)) = true := decide_eq_true (by omega)
        have p4 : decide (n ≤ rs.length) = true := decide_eq_true h2
        have p5 : (n : Int) ≤ (cr : Int) := by omega
        have p6 : (0 : Int) ≤ (n : Int) := by omega
        rw [decide_eq_true h2] at HT
        simp only [Bool.true_and] at HT
        have HS2 := Lib.hid (HSa.out w2 (.slice A1 n c1) qs n HB2.out (HR1.out w2 HB12.out) h2 (by have := HQL.out; omega))
        rw [HQ1.out, HT.out] at HS2
        go_wp2_with (first
          | (go_at_call 14; refine HE2.out.mono ?_; rintro e w3 ⟨rfl, rfl⟩)
          | (go_at_call 16; refine HS2.out.mono ?_; rintro e w3 ⟨rfl, hb3⟩))
        go_returns
        exact ⟨rfl, HB2.out.trans (hb3.mono HB2.out.size)⟩
      · have p3 : decide ((n : Int) ≤ (rs.length : Int)) = false := decide_eq_false (by omega)
        have p4 : decide (n ≤ rs.length) = false := decide_eq_false h2
        rw [decide_eq_false h2] at HT
        simp only [Bool.false_and] at HT
        clear h2
        go_wp2_with (go_at_call 14; refine HE2.out.mono ?_; rintro e w3 ⟨rfl, rfl⟩)
        go_returns
        exact ⟨by rw [← HT.out]; rfl, HB2.out⟩
    · have p0 : decide (least ≤ n) = false := decide_eq_false h1
      have p1 : decide ((n : Int) ≥ (least : Int)) = false := decide_eq_false (by omega)
      have p2 : decide ((least : Int) ≤ (n : Int)) = false := decide_eq_false (by omega)
      rw [decide_eq_false h1] at HT
      simp only [Bool.false_and] at HT
      clear h1
      go_wp2_with (go_at_call 14; refine HE2.out.mono ?_; rintro e w3 ⟨rfl, rfl⟩)
      go_returns
      exact ⟨by rw [← HT.out]; rfl, HB2.out⟩
end Go.Proofs.Ytjfpanamkkdebaa
namespace Go.Proofs.Ytjfpanamkkdebaa
open Go.ChangeShapes Go.WideShapes Go.ChangeAt Go.RowKit Go.Deep
set_option linter.unusedVariables false
set_option linter.unusedSimpArgs false
section
variable {α : Type} {f : α → List Value} {n : Nat}
theorem flat_at (hlf : ∀ a, (f a).length = n) : ∀ (l : List α) (j k : Nat) (hj : j < l.length), k < n → (l.flatMap f)[j * n + k]? = (f l[j])[k]?
  | [], _, _, hj, _ => by cases hj
  | h :: l, 0, k, _, hk => by
    have := hlf h
    rw [List.flatMap_cons, Nat.zero_mul, Nat.zero_add, List.getElem?_append_left (by omega)]; rfl
  | h :: l, j + 1, k, hj, hk => by
    have := hlf h
    have e : (j + 1) * n + k = j * n + k + n := by rw [Nat.add_mul, Nat.one_mul]; omega
    rw [List.flatMap_cons, e, List.getElem?_append_right (by omega), this, Nat.add_sub_cancel]
    exact flat_at hlf l j k (by simpa using hj) hk
theorem flat_len (hlf : ∀ a, (f a).length = n) : ∀ (l : List α), (l.flatMap f).length = l.length * n
  | [] => by simp
  | h :: l => by
    have h1 := hlf h
    rw [List.flatMap_cons, List.length_append, h1, flat_len hlf l, List.length_cons, Nat.add_mul, Nat.one_mul]
    omega
theorem lies_flat (hlf : ∀ a, (f a).length = n) (hn : 0 < n) {w : World} {a : Addr} {l : List α} (h : ∀ i (hi : i < l.length) k v, (f l[i])[k]? = some v → w.cell? ((a.add (i * n)).add k) = some v) : Lies w (some a) (l.flatMap f) := by
  intro K v hK
  have hlt : K < l.length * n := by rw [← flat_len hlf l]; exact (List.getElem?_eq_some_iff.1 hK).1
  have hi : K / n < l.length := (Nat.div_lt_iff_lt_mul hn).2 hlt
  have hk : K % n < n := Nat.mod_lt _ hn
  have e : K = K / n * n + K % n := by rw [Nat.mul_comm]; exact (Nat.div_add_mod K n).symm
  rw [e, flat_at hlf l _ _ hi hk] at hK
  have := h _ hi _ _ hK
  rw [Addr.add_add, ← e] at this
  exact ⟨a, rfl, this⟩
theorem flat_get (hlf : ∀ a, (f a).length = n) (hn : 0 < n) {w : World} {A : Option Addr} {l : List α} (h : Lies w A (l.flatMap f)) (j : Nat) (hj : j < l.length) : ∃ a, A = some a ∧ ∀ k v, (f l[j])[k]? = some v → w.cell? ((a.add (j * n)).add k) = some v := by
  have hl := hlf l[j]
  have h0 : (l.flatMap f)[j * n + 0]? = some ((f l[j])[0]'(by omega)) := by rw [flat_at hlf l j 0 hj hn]; exact List.getElem?_eq_getElem (by omega)
  obtain ⟨a, rfl, _⟩ := h _ _ h0
  refine ⟨a, rfl, fun k v hk => ?_⟩
  have hk2 : k < n := by rw [← hl]; exact (List.getElem?_eq_some_iff.1 hk).1
  rw [← flat_at hlf l j k hj hk2] at hk
  obtain ⟨a', e, hc⟩ := h _ _ hk
  cases e
  rw [Addr.add_add]
  exact hc
end
/-- A deed, and where its bytes lie. -/
structure DoL where
  op : Int
  A : Option Addr
  c : Nat
  b : List UInt8
def dok (x : DoL) : List Value := [.int .i64 x.op, .slice x.A x.b.length x.c]
structure DoL.In (x : DoL) (w : World) : Prop where
  rb : RB w x.A x.b
  cc : x.b.length ≤ x.c
  c0 : x.A = none → x.c = 0
  bl : x.b.length ≤ 9223372036854775807
/-- How the power goes. -/
structure CutL where
  fuse : Int
  torn : Int
  at_ : Int
  A : Option Addr
  c : Nat
  keep : List Int
def cutk (x : CutL) : List Value := [.int .i64 x.fuse, .int .i64 x.torn, .int .i64 x.at_, .slice x.A x.keep.length x.c]
structure CutL.In (x : CutL) (w : World) : Prop where
  ks : Lies w x.A (x.keep.map (Value.int .i64))
  kl : x.keep.length ≤ 9223372036854775807
structure RSl.In (x : RSl) (w : World) : Prop where
  rb : RB w x.A x.bs
  cc : x.bs.length ≤ x.c
  c0 : x.A = none → x.c = 0
  bl : x.bs.length ≤ 9223372036854775807
section
variable {H : Type} {enc : TypeId × Value → H} {W : World} {base : Nat} {spare : Nat → Bool} {held : Bool}
theorem cells_do : Try.prog.cellsOf 48 = 2 := by kernel_rfl
theorem cells_cut : Try.prog.cellsOf 43 = 4 := by kernel_rfl
theorem cells_ji : Try.prog.cellsOf 3 = 1 := by kernel_rfl
theorem cells_jb : Try.prog.cellsOf 29 = 1 := by kernel_rfl
theorem cells_jn : Try.prog.cellsOf 23 = 1 := by kernel_rfl
theorem cells_ju : Try.prog.cellsOf 5 = 1 := by kernel_rfl
/-- A slice of whole numbers within. -/
theorem jnums_of {P : Program} {t e : TypeId} {k : IntKind} {fuel : Nat} {v : Value} {x : DataW H × List MemPlace} (hu : P.underlying t = some (.slice e)) (he : P.underlying e = some (.int k)) (hc : P.cellsOf e = 1)
    (h : DataW.trod enc P W base spare held fuel t [v] = some x) :
    ∃ (a : Option Addr) (cap : Nat) (zs : List Int), v = .slice a zs.length cap ∧ Lies W a (zs.map (Value.int k)) ∧ zs.length ≤ cap ∧ (a = none → cap = 0) ∧ zs.length ≤ 9223372036854775807 ∧ ∀ z ∈ zs, (Lit.int k z).wf = true := by
  rcases open_ints hu he hc h with ⟨hcs, _⟩ | ⟨x, l, c, zs, hcs, _, hl, hm, hz, hx, hcell, hwz⟩
  · injection hcs with hcs _
    exact ⟨none, 0, [], hcs, Lies.nil _ _, Nat.le_refl _, fun _ => rfl, by decide, by simp⟩
  · injection hcs with hcs _
    have hl2 : l ≤ zs.length := by
      rw [hz]
      split
      · exact hl
      · exact Nat.le_refl _
    have hML : maxLen = 9223372036854775807 := rfl
    have e0 : (zs.take l).length = l := by simp; omega
    refine ⟨some x, c, zs.take l, by rw [e0]; exact hcs, ?_, by omega, by simp, by omega, fun n hn => hwz n (List.mem_of_mem_take hn)⟩
    intro i v hv
    rw [List.getElem?_map] at hv
    obtain ⟨n, hn, rfl⟩ := Option.map_eq_some_iff.1 hv
    rw [List.getElem?_take] at hn
    split at hn
    · refine ⟨_, rfl, ?_⟩
      rw [hcell i (by omega), List.getD, hn]
      rfl
    · cases hn
theorem jbytes_of {P : Program} {t e : TypeId} {fuel : Nat} {v : Value} {x : DataW H × List MemPlace} (hu : P.underlying t = some (.slice e)) (he : P.underlying e = some (.int .u8)) (hc : P.cellsOf e = 1)
    (h : DataW.trod enc P W base spare held fuel t [v] = some x) :
    ∃ (a : Option Addr) (cap : Nat) (bs : List UInt8), v = .slice a bs.length cap ∧ RB W a bs ∧ bs.length ≤ cap ∧ (a = none → cap = 0) ∧ bs.length ≤ 9223372036854775807 := by
  obtain ⟨a, cap, zs, h1, h2, h3, h5, h4, h6⟩ := jnums_of hu he hc h
  refine ⟨a, cap, zs.map fun z => UInt8.ofNat z.toNat, by rw [List.length_map]; exact h1, ?_, by rw [List.length_map]; exact h3, h5, by rw [List.length_map]; exact h4⟩
  have e : (zs.map fun z => UInt8.ofNat z.toNat).map vb = zs.map (Value.int .u8) := by
    rw [List.map_map]
    apply List.map_congr_left
    intro z hz
    have := wf_u8 (h6 z hz)
    simp only [Function.comp, vb, UInt8.toNat_ofNat', Value.int.injEq, true_and]
    omega
  unfold RB
  rw [e]
  exact h2
theorem jfld {fs : Array Field} {cs : List Value} {n' : Nat} {ys : List (DataW H × List MemPlace)} (hf : ∀ (i : Nat) (f : Field), fs[i]? = some f → DataW.trod enc Try.prog W base spare held n' f.type ((cs.drop f.offset).take (Try.prog.cellsOf f.type)) = ys[i]?)
    (i : Nat) (f : Field) (h : fs[i]? = some f) (hi : i < ys.length) {t o n : Nat} (ht : f.type = t) (ho : f.offset = o) (hc : Try.prog.cellsOf t = n) : DataW.trod enc Try.prog W base spare held n' t ((cs.drop o).take n) = some ys[i] := by
  rw [← List.getElem?_eq_getElem hi, ← hf i f h, ht, ho, hc]
theorem do_of {fuel : Nat} {cs : List Value} {x : DataW H × List MemPlace} (hl : cs.length = 2) (h : DataW.trod enc Try.prog W base spare held fuel 48 cs = some x) : ∃ p : DoL, cs = dok p ∧ p.In W := by
  match cs, hl with
  | [c0, c1], _ =>
    obtain ⟨ys, n', hn', hy, hlen, hyl, hf⟩ := DataW.trod_struct Try.underlying48 h
    have hs : ys.length = 2 := hyl
    have k0 := jfld hf 0 _ rfl (by omega) (t := 3) (o := 0) rfl rfl cells_ji
    have k1 := jfld hf 1 _ rfl (by omega) (t := 29) (o := 1) rfl rfl cells_jb
    obtain ⟨a, e0, _, _⟩ := DataW.trod_int Try.underlying3 k0
    obtain ⟨A, cc, bs, rfl, hb1, hb2, hb3, hb4⟩ := jbytes_of Try.underlying29 Try.underlying5 cells_ju k1
    obtain rfl := List.head_eq_of_cons_eq e0
    exact ⟨⟨a, A, cc, bs⟩, rfl, hb1, hb2, hb3, hb4⟩
theorem cut_of {fuel : Nat} {cs : List Value} {x : DataW H × List MemPlace} (hl : cs.length = 4) (h : DataW.trod enc Try.prog W base spare held fuel 43 cs = some x) : ∃ p : CutL, cs = cutk p ∧ p.In W := by
  match cs, hl with
  | [c0, c1, c2, c3], _ =>
    obtain ⟨ys, n', hn', hy, hlen, hyl, hf⟩ := DataW.trod_struct Try.underlying43 h
    have hs : ys.length = 4 := hyl
    have k0 := jfld hf 0 _ rfl (by omega) (t := 3) (o := 0) rfl rfl cells_ji
    have k1 := jfld hf 1 _ rfl (by omega) (t := 3) (o := 1) rfl rfl cells_ji
    have k2 := jfld hf 2 _ rfl (by omega) (t := 3) (o := 2) rfl rfl cells_ji
    have k3 := jfld hf 3 _ rfl (by omega) (t := 23) (o := 3) rfl rfl cells_jn
    obtain ⟨a, e0, _, _⟩ := DataW.trod_int Try.underlying3 k0
    obtain ⟨b, e1, _, _⟩ := DataW.trod_int Try.underlying3 k1
    obtain ⟨c, e2, _, _⟩ := DataW.trod_int Try.underlying3 k2
    obtain ⟨B, kc, zs, rfl, hz1, hz2, hz3, hz4, hz5⟩ := jnums_of Try.underlying23 Try.underlying3 cells_ji k3
    obtain rfl := List.head_eq_of_cons_eq e0
    obtain rfl := List.head_eq_of_cons_eq e1
    obtain rfl := List.head_eq_of_cons_eq e2
    exact ⟨⟨a, b, c, B, kc, zs⟩, rfl, hz1, hz4⟩
theorem text_of {fuel : Nat} {cs : List Value} {x : DataW H × List MemPlace} (hl : cs.length = 1) (h : DataW.trod enc Try.prog W base spare held fuel 29 cs = some x) : ∃ p : RSl, cs = [p.v] ∧ p.In W := by
  match cs, hl with
  | [c0], _ =>
    obtain ⟨A, cc, bs, rfl, hb1, hb2, hb3, hb4⟩ := jbytes_of Try.underlying29 Try.underlying5 cells_ju h
    exact ⟨⟨A, cc, bs⟩, rfl, hb1, hb2, hb3, hb4⟩
theorem open_rows {α : Type} (f : α → List Value) (n : Nat) (hlf : ∀ a, (f a).length = n) (hn : 0 < n) (Q : α → Prop) (d0 : α) {t e : TypeId} {a : Option Addr} {len cap : Nat} {d : DataW H} {ps : List MemPlace} (hu : Try.prog.underlying t = some (.slice e)) (hc : Try.prog.cellsOf e = n)
    (he : ∀ (fuel : Nat) (cs : List Value) (y : DataW H × List MemPlace), cs.length = n → DataW.trod enc Try.prog W base spare held fuel e cs = some y → ∃ a, cs = f a ∧ Q a)
    (h : DataW.Trod enc Try.prog W base spare held t (.slice a len cap) d ps) :
    ∃ l : List α, l.length = len ∧ Lies W a (l.flatMap f) ∧ (∀ x ∈ l, Q x) ∧ (a = none → cap = 0) ∧ len ≤ cap ∧ len ≤ 9223372036854775807 := by
  obtain ⟨fuel, hf⟩ := h
  rcases open_slice hu hf with ⟨hcs, _⟩ | ⟨x, l, c, m, n', D, Pl, hcs, _, hl, hmx, hm, _, hi⟩
  · simp [Value.cells] at hcs
    obtain ⟨rfl, rfl, rfl⟩ := hcs
    exact ⟨[], rfl, Lies.nil _ _, by simp, fun _ => rfl, Nat.le_refl _, by decide⟩
  · simp [Value.cells] at hcs
    obtain ⟨rfl, rfl, rfl⟩ := hcs
    have hlm : len ≤ m := by rw [hm]; split <;> omega
    have key : ∀ i, ∃ p : α, i < len → (∀ k v, (f p)[k]? = some v → W.cell? ((x.add (i * n)).add k) = some v) ∧ Q p := by
      intro i
      by_cases hil : i < len
      · obtain ⟨cs', hc', ht'⟩ := hi i (by omega)
        rw [hc] at hc'
        obtain ⟨_, hcl, hat⟩ := World.cells?_some hc'
        obtain ⟨p, rfl, hp⟩ := he _ _ _ hcl ht'
        refine ⟨p, fun _ => ⟨fun k v hk => ?_, hp⟩⟩
        have hk2 : k < n := by rw [← hcl]; exact (List.getElem?_eq_some_iff.1 hk).1
        rw [hat k hk2]
        exact hk
      · exact ⟨d0, fun h => absurd h hil⟩
    refine ⟨(List.range len).map fun i => Classical.choose (key i), by simp, ?_, ?_, by simp, hl, by simp only [maxLen] at hmx; omega⟩
    · refine lies_flat hlf hn (fun i hi2 k v hk => ?_)
      rw [List.length_map, List.length_range] at hi2
      rw [List.getElem_map, List.getElem_range] at hk
      exact (Classical.choose_spec (key i) hi2).1 k v hk
    · intro y hy
      obtain ⟨i, hi2, rfl⟩ := List.mem_map.1 hy
      exact (Classical.choose_spec (key i) (List.mem_range.1 hi2)).2
theorem open_dos {t : TypeId} {a : Option Addr} {len cap : Nat} {d : DataW H} {ps : List MemPlace} (hu : Try.prog.underlying t = some (.slice 48)) (h : DataW.Trod enc Try.prog W base spare held t (.slice a len cap) d ps) :
    ∃ l : List DoL, l.length = len ∧ Lies W a (l.flatMap dok) ∧ (∀ x ∈ l, x.In W) ∧ len ≤ 9223372036854775807 := by
  obtain ⟨l, h1, h2, h3, _, _, h4⟩ := open_rows dok 2 (fun _ => rfl) (by decide) (fun x => x.In W) ⟨0, none, 0, []⟩ hu cells_do (fun _ cs y hl h => do_of hl h) h
  exact ⟨l, h1, h2, h3, h4⟩
theorem open_texts2 {t : TypeId} {a : Option Addr} {len cap : Nat} {d : DataW H} {ps : List MemPlace} (hu : Try.prog.underlying t = some (.slice 29)) (h : DataW.Trod enc Try.prog W base spare held t (.slice a len cap) d ps) :
    ∃ l : List RSl, l.length = len ∧ Lies W a (l.flatMap fun r => [r.v]) ∧ (∀ x ∈ l, x.In W) ∧ len ≤ 9223372036854775807 := by
  obtain ⟨l, h1, h2, h3, _, _, h4⟩ := open_rows (fun r : RSl => [r.v]) 1 (fun _ => rfl) (by decide) (fun x => x.In W) ⟨none, 0, []⟩ hu cells_jb (fun _ cs y hl h => text_of hl h) h
  exact ⟨l, h1, h2, h3, h4⟩
set_option maxRecDepth 100000 in
theorem open_do {r : Reach} {b0 : Nat} {v : Value} {d : DataW H} {ps : List MemPlace} (hval : Value.okWide Try.prog W r b0 48 v) (h : DataW.Trod enc Try.prog W base spare held 48 v d ps) : ∃ p : DoL, v = .agg (dok p).toArray ∧ p.In W := by
  obtain ⟨cs, rfl, hs⟩ := okWide_struct Try.underlying48 hval
  rw [cells_do] at hs
  obtain ⟨fuel, hf⟩ := h
  obtain ⟨p, hp, hi⟩ := do_of (by simpa [Value.cells] using hs) hf
  refine ⟨p, ?_, hi⟩
  rw [← hp]
  simp [Value.cells]
set_option maxRecDepth 100000 in
theorem open_cut {r : Reach} {b0 : Nat} {v : Value} {d : DataW H} {ps : List MemPlace} (hval : Value.okWide Try.prog W r b0 43 v) (h : DataW.Trod enc Try.prog W base spare held 43 v d ps) : ∃ p : CutL, v = .agg (cutk p).toArray ∧ p.In W := by
  obtain ⟨cs, rfl, hs⟩ := okWide_struct Try.underlying43 hval
  rw [cells_cut] at hs
  obtain ⟨fuel, hf⟩ := h
  obtain ⟨p, hp, hi⟩ := cut_of (by simpa [Value.cells] using hs) hf
  refine ⟨p, ?_, hi⟩
  rw [← hp]
  simp [Value.cells]
end
end Go.Proofs.Ytjfpanamkkdebaa
