/- A sync: the walk. -/
import Derived.Test.YtjfpanamkkdebaaPgE
import Derived.Maps.RangeWalk
namespace Go.Proofs.Ytjfpanamkkdebaa
open Go.RowKit Go.Maps
set_option linter.unusedVariables false
set_option maxRecDepth 100000
set_option linter.unusedSimpArgs false
section
variable {w : World} {ops : Array Oper} {rest : List Oper} {o : Oper} {a : Act} {Q : Exit → Act → World → Prop}
theorem wpList_clear_map (hg : o.guard = none) (x : Operand) (hop : o.op = .call { callee := .builtin .clear, args := #[x], argTypes := #[77] }) (b N : Nat) (L : Nat → Option (List UInt8)) (hx : a.eval x = .map (some b)) (h : MapIs w b N L)
    (hK : ∀ w', MapIs w' b N (fun _ => none) → w.grownBy w' (some b) → wpList Try.prog ops Q rest (a.put o.dst (.tuple #[])) w') : wpList Try.prog ops Q (o :: rest) a w := by
  obtain ⟨w', hrun, h1, h2⟩ := h.clear o.type
  refine wpList_plain hg fun K hK' => ?_
  unfold Oper.wp
  simp only [execOp, hop, resolve, invoke, builtin, Sem.run_bind, Sem.run_pure, Result.andThen_ok, List.map_toArray, List.map_cons, List.map_nil, hx, hrun]
  exact hK' _ _ (hK w' h1 h2)
end
/-- The pages while what was written is laid over them: those that are no longer to come. -/
def merged (K : List (List UInt8)) (L : Nat → Option (List UInt8)) (left : Nat → Bool) : List (List UInt8) :=
  (List.range K.length).map fun i => match L i with | some s => if left i then K.getD i [] else s | none => K.getD i []
theorem merged_length (K : List (List UInt8)) (L : Nat → Option (List UInt8)) (left : Nat → Bool) : (merged K L left).length = K.length := by simp [merged]
theorem merged_start (K : List (List UInt8)) (L : Nat → Option (List UInt8)) : merged K L (fun i => (L i).isSome) = K := by
  refine List.ext_getElem (merged_length _ _ _) fun i h1 h2 => ?_
  have hg : K.getD i [] = K[i] := by rw [List.getD_eq_getElem?_getD, List.getElem?_eq_getElem h2]; rfl
  simp only [merged, List.getElem_map, List.getElem_range, hg]
  cases L i <;> simp
theorem merged_step (K : List (List UInt8)) (L : Nat → Option (List UInt8)) (left : Nat → Bool) (i : Nat) (s : List UInt8) (hs : L i = some s) :
    merged K L (fun j => left j && !decide (j = i)) = (merged K L left).set i s := by
  refine List.ext_getElem (by simp [merged]) fun j h1 h2 => ?_
  by_cases e : i = j
  · subst e
    rw [List.getElem_set_self]
    simp [merged, hs]
  · rw [List.getElem_set_ne e]
    simp [merged, show ¬ j = i from fun e2 => e e2.symm]
theorem merged_end (d : Dsk) (left : Nat → Bool) (h : ∀ i, i < d.kept.length → left i = false) : merged d.kept d.loose left = (List.range d.kept.length).map d.now := by
  refine List.ext_getElem (by simp [merged]) fun i h1 h2 => ?_
  have hi : i < d.kept.length := by simpa [merged] using h1
  simp only [merged, List.getElem_map, List.getElem_range, h i hi, Dsk.now]
  cases d.loose i <;> rfl
/-- One page's bytes anew. -/
theorem DkAt.keptSet {w : World} {g k m c : Nat} {d : Dsk} {K : List (List UInt8)} (h : DkAt w g k m c { d with kept := K }) {i : Nat} (hi : i < K.length) {s : List UInt8} (hs : s.length ≤ 128) :
    DkAt (w.setCell ⟨k, i, none⟩ (.string (str s))) g k m c { d with kept := K.set i s } ∧ Only w (w.setCell ⟨k, i, none⟩ (.string (str s))) [k] := by
  obtain ⟨l1, l2, l3⟩ := h.lt
  have ho := Only.of_grown (Lib.grownBy_setCell w k i (.string (str s)))
  have hl : (K.set i s).length = K.length := List.length_set
  refine ⟨⟨?_, ?_, ?_, ⟨?_, ?_, ?_, ?_, h.ok.left⟩, h.gk, h.gm, h.km⟩, ho⟩
  · rw [ho.block g l1 (fun e => h.gk (List.mem_singleton.1 e)), h.blk]
    simp only [hl]
  · have := (World.ownsRow.stored h.row i (vs s)).1
    rw [← List.map_set] at this
    simp only [hl]
    exact this
  · simp only [hl]
    exact h.map.block (ho.block m l3 (fun e => h.km (List.mem_singleton.1 e).symm))
  · simp only [hl]; exact h.ok.pos
  · simp only [hl]; exact h.ok.most
  · intro t ht
    rcases List.mem_or_eq_of_mem_set ht with ht | rfl
    · exact h.ok.kept t ht
    · exact hs
  · simp only [hl]; exact h.ok.loose
set_option maxHeartbeats 3200000 in
theorem sync_any (g k m c : Nat) (d : Dsk) (w : World) (h : DkAt w g k m c d) :
    Calls Try.prog 29 #[.pointer (some ⟨g, 0, none⟩)] w fun e w' => e = .returned (.int .i64 d.actE) ∧ DkAt w' g k m c d.synced ∧ Only w w' [g, k, m] := by
  have HS := Lib.hid (size_any g k m c d w h)
  have h0 := h.ok.pos
  have hq0 : ((d.kept.length : Int) == 0) = false := by rw [beq_eq_false_iff_ne]; omega
  have HAc := Lib.hid (act_any g k m c d w h)
  have hok := h.ok.synced
  by_cases hst : d.actE = 0
  · rw [hst] at HAc
    have HSy : Hid (d.synced = { d.acted with kept := (List.range d.kept.length).map d.now, loose := fun _ => none }) := by show _ = _; unfold Dsk.synced; rw [stops_of hst]; rfl
    rw [hst]
    have hn := d.acted_kept
    have hlo := d.acted_loose
    have HMe : Hid (∀ left : Nat → Bool, (∀ i, i < d.kept.length → left i = false) → merged d.kept d.loose left = (List.range d.kept.length).map d.now) := fun left h => merged_end d left h
    have hmost := h.ok.most
    have hlen := congrArg List.length hn
    have HD2 : Hid (d.acted = { d.acted with kept := d.kept, loose := d.loose }) := by show _ = _; rw [← hn, ← hlo]
    rw [← hn, ← hlo] at HMe
    rw [← hn] at HSy
    rw [← hlen] at HS hq0
    have HO : Hid d.synced.Ok := hok
    generalize (List.range d.acted.kept.length).map d.now = F at HSy HMe
    generalize d.synced = ds at HSy HO ⊢
    generalize d.acted = d2 at HAc hn hlo HMe HSy HS hq0
    clear h hst hn hlo hok HD2 hlen
    have h0' : True := trivial
    clear h0 hmost
    go_enter Try.func29, Try.ntmps29
    go_wp2_with (first
      | (go_at_call 11; refine HS.out.mono ?_; rintro e w' ⟨rfl, rfl⟩)
      | (go_at_call 33; refine HAc.out.mono ?_; rintro e w1 ⟨rfl, hd1, ho1⟩
         have k4 := hd1.c4
         have hM1 := hd1.map)
      | (at_range; refine wpList_range_map rfl _ rfl m _ _ rfl hM1 ?_; intro w2 cnt hrg hg2 hs2))
    go_frame
    obtain ⟨l1, l2, l3⟩ := hd1.lt
    have hN := hd1.ok.most
    have hLo := Lib.hid hd1.ok.loose
    have hd2 : DkAt w2 g k m c { d2 with kept := merged d2.kept d2.loose (fun i => (d2.loose i).isSome) } := by
      rw [merged_start]
      exact hd1.only (S := []) ⟨hg2.os, hg2.tape, hg2.output, hg2.size, fun i hi _ => hg2.block i hi (by simp)⟩ List.not_mem_nil List.not_mem_nil List.not_mem_nil
    have ho2 : Only w w2 [g, k, m] := (ho1.mono (fun i h => by simp at h; simp [h])).trans ⟨hg2.os, hg2.tape, hg2.output, hg2.size, fun i hi _ => hg2.block i hi (by simp)⟩
    obtain ⟨r, hr⟩ : ∃ r, r = w1.heap.size := ⟨_, rfl⟩
    have hwr : w.heap.size ≤ r := hr ▸ ho1.size
    rw [← hr] at hrg l1 l2 l3 ⊢
    have hgm := hd1.gm
    have hgk := hd1.gk
    have hkm := hd1.km
    clear hd1 ho1 k4 hM1 hg2 hs2 HAc HS hr
    go_loopg [4] cnt (fun x s4 wr => ∃ left : Nat → Bool, MapRg wr m r d2.kept.length d2.loose left x ∧ DkAt wr g k m c { d2 with kept := merged d2.kept d2.loose left } ∧ Only w wr [g, k, m])
    case atStart => exact ⟨_, hrg, hd2, ho2⟩
    case round =>
      clear hrg hd2 ho2
      obtain ⟨left, hrg, hd, ho⟩ := hrel
      go_wp2_with (at_next; refine wpList_next_map rfl _ rfl m r d2.kept.length d2.loose left gk (by omega) rfl hrg ?_ ?_)
      · intro hl0
        have HF := Lib.hid (HMe.out left hl0)
        have hM := hrg.isMap
        have k4 := hd.c4
        go_wp2_with (refine wpList_clear_map rfl _ rfl m _ _ rfl hM ?_; intro w4 hM4 hg4)
        go_returns
        obtain ⟨j1, j2, j3⟩ := hd.lt
        have hFl : F.length = d2.kept.length := by rw [← HF.out]; exact merged_length _ _ _
        have hg4' := hg4
        rw [HF.out] at hd
        have hO := HO.out
        rw [HSy.out] at hO ⊢
        refine ⟨rfl, ⟨(hg4.block g j1 (fun e => by injection e with e; exact hgm e)).trans hd.blk, own_block hd.row (hg4.block k j2 (fun e => by injection e with e; exact hkm e)), ?_, hO, hgk, hgm, hkm⟩, ho.trans ((Only.of_grown hg4).mono (fun i h => by simp at h; simp [h]))⟩
        show MapIs w4 m F.length (fun _ => none)
        rw [hFl]
        exact hM4
      · intro i s w3 cnt' hi hli hLi hsl hrg3 hlt hg3 hs3 hen
        have hd3 : DkAt w3 g k m c { d2 with kept := merged d2.kept d2.loose left } := hd.only (Only.of_grown hg3) (fun e => by have := List.mem_singleton.1 e; omega) (fun e => by have := List.mem_singleton.1 e; omega) (fun e => by have := List.mem_singleton.1 e; omega)
        have ho3 : Only w w3 [g, k, m] := ⟨hg3.os.trans ho.os, hg3.tape.trans ho.tape, hg3.output.trans ho.output, Nat.le_trans ho.size hg3.size, fun j hj hn => (hg3.block j (Nat.lt_of_lt_of_le hj ho.size) (fun e => by injection e with e; omega)).trans (ho.block j hj hn)⟩
        have k3 := hd3.c3
        have hml := merged_length d2.kept d2.loose left
        have him : i < (merged d2.kept d2.loose left).length := by omega
        have hk := World.ownsRow.cellAt hd3.row i (by rw [Nat.mul_one]; exact him)
        have hf := World.ownsRow.frozenAt hd3.row i
        have hsl2 := hLo.out i s hLi
        have hms := merged_step d2.kept d2.loose left i s hLi
        have hks := hd3.keptSet him (s := s) (by omega)
        rw [← hms] at hks
        clear HMe HSy HO hrg hd ho hms
        simp only [hml] at k3
        have hi0 : (0 : Int) ≤ (i : Int) := by omega
        have hi1 : (i : Int) < (d2.kept.length : Int) := by omega
        obtain ⟨old, ho9⟩ : ∃ v, w3.cell? ⟨k, i, none⟩ = some v := by
          have : i < (List.map vs (merged d2.kept d2.loose left)).length := by rw [List.length_map]; exact him
          exact ⟨_, hk.trans (List.getElem?_eq_getElem this)⟩
        have HKs := Lib.hid hks
        clear hk hks hd3
        go_wp2
        go_roundg cnt'
        case measure => exact hlt
        exact ⟨_, hrg3.kept (Lib.grownBy_setCell w3 k i _) (fun e => by injection e with e; exact hkm e.symm) (fun e => by injection e with e; omega), HKs.out.1, ho3.trans (HKs.out.2.mono (fun i h => by simp at h; simp [h]))⟩
  · have hs9 := stops_if hst
    have HSy : Hid (d.synced = d.acted) := by show _ = _; unfold Dsk.synced; rw [hs9.1]; rfl
    rw [hs9.2, HSy.out]
    rw [hs9.2] at HAc
    clear h hst hs9 HSy hok
    go_enter Try.func29, Try.ntmps29
    go_wp2_with (first
      | (go_at_call 11; refine HS.out.mono ?_; rintro e w' ⟨rfl, rfl⟩)
      | (go_at_call 33; refine HAc.out.mono ?_; rintro e w1 ⟨rfl, hd1, ho1⟩))
    go_returns
    exact ⟨rfl, hd1, ho1.mono (fun i h => by simp at h; simp [h])⟩
end Go.Proofs.Ytjfpanamkkdebaa
