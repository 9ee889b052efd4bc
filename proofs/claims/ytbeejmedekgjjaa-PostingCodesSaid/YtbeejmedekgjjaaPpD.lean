/- Postings decoded by the document: plain. -/
import Derived.Test.YtbeejmedekgjjaaPpC
import Derived.Test.YtbeejmedekgjjaaPqC
namespace Go.Proofs.Ytbeejmedekgjjaa
set_option linter.unusedVariables false
set_option linter.unusedSimpArgs false
def refRun (top : Int) : Nat → Int → Option (List UInt8) → Option (List Post × Option (List UInt8))
  | 0, _, o => some ([], o)
  | k + 1, last, o =>
    if ((refPost last o).2.isSome && !(decide (k = 0) && ((refPost last o).1.doc != top))) = true then (refRun top k (refPost last o).1.doc (refPost last o).2).map (fun x => ((refPost last o).1 :: x.1, x.2)) else none
def refCh : Nat → Nat → Int → Option (List UInt8) → Option (List Post × Option (List UInt8))
  | 0, _, _, o => some ([], o)
  | k + 1, m, last, o =>
    (refRun (last + 1 + (numS 65536 o).1) (min 4 m) last (some (textS 65536 (numS 65536 o).2).1)).bind fun x =>
      if ((textS 65536 (numS 65536 o).2).2.isSome && overS x.2) = true then (refCh k (m - 4) (lastD last x.1) (textS 65536 (numS 65536 o).2).2).map (fun y => (x.1 ++ y.1, y.2)) else none
def refDec (bs : List UInt8) : Option (List Post) :=
  (refCh (((numS 65536 (some bs)).1 + 3) / 4) (numS 65536 (some bs)).1 (-1) (numS 65536 (some bs)).2).bind fun x => if (overS x.2 && chkB x.1) = true then some x.1 else none
theorem refSpots_none : ∀ n, (refSpots n none).2 = none
  | 0 => rfl
  | n + 1 => by
    rw [refSpots_succ]
    exact refSpots_none n
theorem refSpots_back : ∀ (n : Nat) (o : Option (List UInt8)) (sp : List Spt) (r : List UInt8), refSpots n o = (sp, some r) → o = some (sp.flatMap spotBytes ++ r) ∧ sp.length = n
  | 0, o, sp, r, h => by
    unfold refSpots at h
    injection h with h1 h2
    subst h1; subst h2
    exact ⟨rfl, rfl⟩
  | n + 1, o, sp, r, h => by
    rw [refSpots_succ] at h
    cases hn : numS 4 o with
    | mk x o1 =>
      rw [hn] at h
      simp only at h
      cases hr : risingS 60 59 o1 with
      | mk l o2 =>
        rw [hr] at h
        simp only at h
        cases hs : refSpots n o2 with
        | mk q o3 =>
          rw [hs] at h
          injection h with h1 h2
          simp only at h1 h2
          subst h1; subst h2
          obtain ⟨k1, k2⟩ := refSpots_back n o2 q r hs
          subst k1
          have k3 := risingS_back hr
          subst k3
          obtain ⟨k4, k5, k6⟩ := numS_back hn
          rw [k4]
          refine ⟨?_, by simp [k2]⟩
          rw [List.flatMap_cons, spotBytes, numNat_nat]
          simp only [List.append_assoc]
theorem refSpots_spots : ∀ (sp : List Spt) (r : List UInt8), (∀ s ∈ sp, placesB s.2 = true ∧ 1 ≤ s.1 ∧ s.1 ≤ 4) → refSpots sp.length (some (sp.flatMap spotBytes ++ r)) = (sp, some r)
  | [], r, _ => rfl
  | s :: sp, r, h => by
    obtain ⟨h1, h2, h3⟩ := h s List.mem_cons_self
    have e : (s :: sp).flatMap spotBytes ++ r = numBytes (numNat s.1) ++ (risingBytes s.2 ++ (sp.flatMap spotBytes ++ r)) := by rw [List.flatMap_cons, spotBytes]; simp only [List.append_assoc]
    have e2 : ((numNat s.1 : Nat) : Int) = s.1 := by unfold numNat; omega
    have hn : numS 4 (some (numBytes (numNat s.1) ++ (risingBytes s.2 ++ (sp.flatMap spotBytes ++ r)))) = (numNat s.1, some (risingBytes s.2 ++ (sp.flatMap spotBytes ++ r))) := numS_num (by omega) (by omega) _
    rw [List.length_cons, e, refSpots_succ, hn]
    simp only
    rw [risingS_rising h1]
    simp only
    rw [refSpots_spots sp r (fun q hq => h q (List.mem_cons_of_mem _ hq)), e2]
theorem refPost_post {p : Post} (h : fitsB p = true) {last : Int} (h0 : -1 ≤ last) (h1 : last < p.doc) (r : List UInt8) : refPost last (some (postBytes last p ++ r)) = (p, some r) := by
  have hf := fitsB_fits h
  have e : postBytes last p ++ r = numBytes (numNat (p.doc - last - 1)) ++ (numBytes p.spots.length ++ (p.spots.flatMap spotBytes ++ r)) := by unfold postBytes; simp only [List.append_assoc]
  have d1 := hf.d1
  have n1 := hf.n1
  have e2 : ((numNat (p.doc - last - 1) : Nat) : Int) = p.doc - last - 1 := by unfold numNat; omega
  have hn : numS 65536 (some (postBytes last p ++ r)) = (numNat (p.doc - last - 1), some (numBytes p.spots.length ++ (p.spots.flatMap spotBytes ++ r))) := by rw [e]; exact numS_num (by omega) (by omega) _
  have hn2 : numS 4 (some (numBytes p.spots.length ++ (p.spots.flatMap spotBytes ++ r))) = (p.spots.length, some (p.spots.flatMap spotBytes ++ r)) := numS_num (by omega) (by omega) _
  have hs := refSpots_spots p.spots r (fun s hs => ⟨hf.pl s hs, hf.f s hs⟩)
  unfold refPost
  rw [hn]
  simp only
  rw [hn2]
  simp only
  rw [hs, e2]
  simp only
  congr 1
  cases p with
  | mk d sp => simp only; congr 1; omega
theorem refPost_back {last : Int} {o : Option (List UInt8)} {p : Post} {r : List UInt8} (h : refPost last o = (p, some r)) : o = some (postBytes last p ++ r) ∧ last < p.doc := by
  unfold refPost at h
  cases hn : numS 65536 o with
  | mk x o1 =>
    rw [hn] at h
    simp only at h
    cases hn2 : numS 4 o1 with
    | mk n o2 =>
      rw [hn2] at h
      simp only at h
      cases hs : refSpots n o2 with
      | mk sp o3 =>
        rw [hs] at h
        injection h with h1 h2
        simp only at h1 h2
        subst h1; subst h2
        obtain ⟨k1, k2⟩ := refSpots_back n o2 sp r hs
        subst k1
        obtain ⟨k3, _, _⟩ := numS_back hn2
        subst k3
        obtain ⟨k4, _, _⟩ := numS_back hn
        refine ⟨?_, by show last < last + 1 + (x : Int); omega⟩
        rw [k4]
        unfold postBytes
        have e : numNat (last + 1 + (x : Int) - last - 1) = x := by rw [show last + 1 + (x : Int) - last - 1 = (x : Int) by omega]; exact numNat_nat x
        simp only
        rw [e, k2]
        simp only [List.append_assoc]
theorem refRun_back {top : Int} : ∀ (k : Nat) (last : Int) (o : Option (List UInt8)) (c : List Post) (s : List UInt8), refRun top k last o = some (c, some s) → o = some (runBytes last c ++ s) ∧ c.length = k ∧ (0 < k → top = lastD last c)
  | 0, last, o, c, s, h => by
    unfold refRun at h
    injection h with h
    injection h with h1 h2
    subst h1; subst h2
    exact ⟨rfl, rfl, by omega⟩
  | k + 1, last, o, c, s, h => by
    unfold refRun at h
    cases hp : refPost last o with
    | mk p o1 =>
      rw [hp] at h
      simp only at h
      split at h
      · rename_i hc
        cases hr : refRun top k p.doc o1 with
        | none => rw [hr] at h; simp at h
        | some x =>
          obtain ⟨c1, o2⟩ := x
          rw [hr] at h
          simp only [Option.map_some, Option.some.injEq, Prod.mk.injEq] at h
          obtain ⟨h1, h2⟩ := h
          subst h1; subst h2
          obtain ⟨k1, k2, k3⟩ := refRun_back k p.doc o1 c1 s hr
          subst k1
          obtain ⟨k4, k5⟩ := refPost_back hp
          refine ⟨?_, by simp [k2], fun _ => ?_⟩
          · rw [k4, runBytes, List.append_assoc]
          · rw [lastD_cons]
            by_cases hk : 0 < k
            · exact k3 hk
            · obtain rfl : k = 0 := by omega
              cases c1 with
              | nil =>
                rw [lastD_nil]
                simp at hc
                exact hc.symm
              | cons a b => simp at k2
      · cases h
theorem refRun_run {top : Int} : ∀ (c : List Post) (last : Int) (s : List UInt8), chkFrom last c = true → -1 ≤ last → (c ≠ [] → top = lastD last c) → refRun top c.length last (some (runBytes last c ++ s)) = some (c, some s)
  | [], last, s, _, _, _ => rfl
  | p :: c, last, s, h, h0, ht => by
    unfold chkFrom at h
    simp only [Bool.and_eq_true, decide_eq_true_eq] at h
    have hd := fitsB_doc h.1.1
    have hp := refPost_post h.1.1 h0 h.1.2 (runBytes p.doc c ++ s)
    have ht2 := ht (by simp)
    rw [lastD_cons] at ht2
    rw [List.length_cons, runBytes, List.append_assoc, refRun, hp]
    simp only
    rw [refRun_run c p.doc s h.2 (by omega) (fun _ => ht2), if_pos]
    · rfl
    · by_cases hk : c.length = 0
      · have : c = [] := List.length_eq_zero_iff.1 hk
        subst this
        rw [lastD_nil] at ht2
        simp [ht2]
      · simp [hk]
theorem overS_some {o : Option (List UInt8)} (h : overS o = true) : o = some [] := overS_eq h
theorem refCh_back : ∀ (k m : Nat) (last : Int) (o : Option (List UInt8)) (l : List Post) (s : List UInt8), k = (m + 3) / 4 → refCh k m last o = some (l, some s) → o = some (runsN k last l ++ s) ∧ l.length = m
  | 0, m, last, o, l, s, hk, h => by
    unfold refCh at h
    injection h with h
    injection h with h1 h2
    subst h1; subst h2
    exact ⟨rfl, by simp; omega⟩
  | k + 1, m, last, o, l, s, hk, h => by
    unfold refCh at h
    cases hn : numS 65536 o with
    | mk x o1 =>
      rw [hn] at h
      simp only at h
      cases hx : textS 65536 o1 with
      | mk tx o2 =>
        rw [hx] at h
        simp only at h
        cases hr : refRun (last + 1 + (x : Int)) (min 4 m) last (some tx) with
        | none => rw [hr] at h; simp at h
        | some y =>
          obtain ⟨c, r⟩ := y
          rw [hr] at h
          simp only [Option.bind_some] at h
          split at h
          · rename_i hc
            rw [Bool.and_eq_true] at hc
            have hr0 := overS_some hc.2
            subst hr0
            obtain ⟨r2, rfl⟩ := Option.isSome_iff_exists.1 hc.1
            cases hz : refCh k (m - 4) (lastD last c) (some r2) with
            | none => rw [hz] at h; simp at h
            | some z =>
              obtain ⟨l1, o3⟩ := z
              rw [hz] at h
              simp only [Option.map_some, Option.some.injEq, Prod.mk.injEq] at h
              obtain ⟨h1, h2⟩ := h
              subst h1; subst h2
              obtain ⟨k1, k2⟩ := refCh_back k (m - 4) _ _ l1 s (by omega) hz
              obtain ⟨k3, k4, k5⟩ := refRun_back _ _ _ _ _ hr
              injection k3 with k3
              rw [List.append_nil] at k3
              injection k1 with k1
              have k5 := k5 (by omega)
              obtain ⟨k6, k7⟩ := textS_back hx
              subst k6
              obtain ⟨k8, _, _⟩ := numS_back hn
              have ht : (c ++ l1).take 4 = c := by
                by_cases h4 : 4 ≤ m
                · rw [List.take_append_of_le_length (by omega), List.take_of_length_le (by omega)]
                · have : l1 = [] := List.length_eq_zero_iff.1 (by omega)
                  rw [this, List.append_nil, List.take_of_length_le (by omega)]
              have hd : (c ++ l1).drop 4 = l1 := by
                by_cases h4 : 4 ≤ m
                · rw [List.drop_append_of_le_length (by omega), List.drop_of_length_le (by omega), List.nil_append]
                · have : l1 = [] := List.length_eq_zero_iff.1 (by omega)
                  rw [this, List.append_nil, List.drop_of_length_le (by omega)]
              refine ⟨?_, by rw [List.length_append]; omega⟩
              rw [runsN, ht, hd, chunkBytes, ← k3, ← k5, show last + 1 + (x : Int) - last - 1 = (x : Int) by omega, numNat_nat, k8, k1]
              simp only [List.append_assoc]
              rw [k5]
          · cases h
theorem refCh_runs : ∀ (k m : Nat) (last : Int) (l : List Post) (s : List UInt8), k = (m + 3) / 4 → l.length = m → chkFrom last l = true → -1 ≤ last → refCh k m last (some (runsN k last l ++ s)) = some (l, some s)
  | 0, m, last, l, s, hk, hl, hc, h0 => by
    have : l = [] := List.length_eq_zero_iff.1 (by omega)
    subst this
    rfl
  | k + 1, m, last, l, s, hk, hl, hc, h0 => by
    have hne : l ≠ [] := by intro e; subst e; simp at hl; omega
    have hc4 := chkFrom_take hc 4
    have hf := (chkFrom_fits _ _ hc4.1).1
    have hne4 : l.take 4 ≠ [] := by cases l with | nil => exact absurd rfl hne | cons a b => simp
    have hlt := (chkFrom_last _ _ hc4.1).2 hne4
    have hle : lastD last (l.take 4) ≤ 65535 := by
      unfold lastD
      cases hg : (l.take 4).getLast? with
      | none => exact absurd (List.getLast?_eq_none_iff.1 hg) hne4
      | some p => have := fitsB_doc (hf p (List.mem_of_getLast? hg)); simp only [Option.map_some, Option.getD_some]; omega
    have hrl := runBytes_le (l.take 4) last hf
    have hl4 : (l.take 4).length = min 4 m := by rw [List.length_take, hl]
    have hx : ((numNat (lastD last (l.take 4) - last - 1) : Nat) : Int) = lastD last (l.take 4) - last - 1 := by unfold numNat; omega
    have hn : numS 65536 (some (runsN (k + 1) last l ++ s)) = (numNat (lastD last (l.take 4) - last - 1), some (textBytes (runBytes last (l.take 4)) ++ (runsN k (lastD last (l.take 4)) (l.drop 4) ++ s))) := by
      rw [runsN, chunkBytes, List.append_assoc, List.append_assoc]
      exact numS_num (by omega) (by omega) _
    have ht := textS_text (tx := runBytes last (l.take 4)) (by omega) (runsN k (lastD last (l.take 4)) (l.drop 4) ++ s)
    have hrr := refRun_run (top := last + 1 + ((numNat (lastD last (l.take 4) - last - 1) : Nat) : Int)) (l.take 4) last [] hc4.1 h0 (fun _ => by omega)
    rw [List.append_nil, hl4] at hrr
    have hih := refCh_runs k (m - 4) (lastD last (l.take 4)) (l.drop 4) s (by omega) (by rw [List.length_drop]; omega) hc4.2 (by omega)
    rw [refCh, hn]
    simp only
    rw [ht]
    simp only
    rw [hrr]
    simp only [Option.bind_some]
    rw [hih]
    simp [overS, List.take_append_drop]
/-- The document's decoding, and the bytes, are each other's back. -/
theorem refDec_iff {bs : List UInt8} {l : List Post} : refDec bs = some l ↔ chkB l = true ∧ encB l = bs := by
  constructor
  · intro h
    unfold refDec at h
    cases hn : numS 65536 (some bs) with
    | mk n o =>
      rw [hn] at h
      simp only at h
      cases hr : refCh ((n + 3) / 4) n (-1) o with
      | none => rw [hr] at h; simp at h
      | some x =>
        obtain ⟨l1, o1⟩ := x
        rw [hr] at h
        simp only [Option.bind_some] at h
        split at h
        · rename_i hc
          injection h with h
          subst h
          rw [Bool.and_eq_true] at hc
          have ho := overS_some hc.1
          subst ho
          obtain ⟨k1, k2⟩ := refCh_back _ n _ _ _ _ rfl hr
          subst k1
          obtain ⟨k3, _, _⟩ := numS_back hn
          injection k3 with k3
          refine ⟨hc.2, ?_⟩
          rw [encB_runs, runsB, k2, k3, List.append_nil]
        · cases h
  · intro ⟨hc, he⟩
    have hl := chkB_len hc
    have hn : numS 65536 (some bs) = (l.length, some (runsB (-1) l)) := by rw [← he, encB_runs]; exact numS_num (by omega) (by omega) _
    have hr := refCh_runs ((l.length + 3) / 4) l.length (-1) l [] rfl rfl hc (by omega)
    rw [List.append_nil] at hr
    unfold refDec
    rw [hn]
    simp only
    unfold runsB
    rw [hr]
    simp [overS, hc]
theorem dec_same {bs : List UInt8} (hm : bs.length ≤ 140737488355300) : decP bs = refDec bs := by
  cases h : refDec bs with
  | some l => exact (decP_iff hm).2 (refDec_iff.1 h)
  | none =>
    cases h2 : decP bs with
    | none => rfl
    | some l => rw [refDec_iff.2 ((decP_iff hm).1 h2)] at h; cases h
end Go.Proofs.Ytbeejmedekgjjaa
