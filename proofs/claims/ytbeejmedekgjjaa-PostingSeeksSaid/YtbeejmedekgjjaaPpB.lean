/- Postings: what was encoded is decoded, what is decoded was encoded: plain. -/
import Derived.Test.YtbeejmedekgjjaaPpA
import Derived.Test.YtbeejmedekgjjaaPoP
namespace Go.Proofs.Ytbeejmedekgjjaa
set_option linter.unusedVariables false
set_option linter.unusedSimpArgs false
theorem numS_num {most : Int} {x : Nat} (hx : x < 9223372036854775808) (hm : (x : Int) ≤ most) (r : List UInt8) : numS most (some (numBytes x ++ r)) = (x, some r) := numS_ok (numP_num hx hm r)
theorem numS_back {most : Int} {o : Option (List UInt8)} {x : Nat} {r : List UInt8} (h : numS most o = (x, some r)) : o = some (numBytes x ++ r) ∧ (x : Int) ≤ most ∧ x < 9223372036854775808 := by
  cases o with
  | none => simp [numS] at h
  | some bs =>
    cases hn : numP most bs with
    | no e => rw [numS_no hn] at h; simp at h
    | ok y s =>
      rw [numS_ok hn] at h
      injection h with h1 h2
      injection h2 with h2
      subst h1; subst h2
      exact ⟨by rw [← numP_back hn], (numP_ok hn).2.1, (numP_ok hn).1⟩
theorem textS_text {tx : List UInt8} (h : tx.length ≤ 65536) (r : List UInt8) : textS 65536 (some (textBytes tx ++ r)) = (tx, some r) := by
  unfold textS textBytes
  rw [List.append_assoc, numS_num (by omega) (by omega)]
  simp only
  rw [if_neg (by rw [List.length_append]; omega), List.take_append_of_le_length (Nat.le_refl _), List.take_length, List.drop_append_of_le_length (Nat.le_refl _), List.drop_length]
  rfl
theorem textS_back {o : Option (List UInt8)} {tx r : List UInt8} (h : textS 65536 o = (tx, some r)) : o = some (textBytes tx ++ r) ∧ tx.length ≤ 65536 := by
  unfold textS at h
  cases hn : numS 65536 o with
  | mk n o1 =>
    rw [hn] at h
    cases o1 with
    | none => simp at h
    | some s =>
      simp only at h
      obtain ⟨h1, h2, h3⟩ := numS_back hn
      split at h
      · simp at h
      · injection h with e1 e2
        injection e2 with e2
        have hl : tx.length = n := by rw [← e1, List.length_take]; omega
        refine ⟨?_, by omega⟩
        rw [h1, ← e2, textBytes, hl, ← e1, List.append_assoc, List.take_append_drop]
theorem risingS_rising {l : List Int} (h : placesB l = true) (r : List UInt8) : risingS 60 59 (some (risingBytes l ++ r)) = (l, some r) := by
  have hl := placesB_len h
  unfold placesB at h
  simp only [Bool.and_eq_true] at h
  exact risingS_ok (risingP_rising (by omega) h.1 (by omega) (by omega) r)
theorem risingS_back {o : Option (List UInt8)} {l : List Int} {r : List UInt8} (h : risingS 60 59 o = (l, some r)) : o = some (risingBytes l ++ r) := by
  cases o with
  | none => simp [risingS] at h
  | some bs =>
    cases hn : risingP 60 59 bs with
    | no e => rw [risingS_no hn] at h; simp at h
    | ok m s =>
      rw [risingS_ok hn] at h
      injection h with h1 h2
      injection h2 with h2
      subst h1; subst h2
      rw [← (risingP_back hn).1]
theorem spotsS_spots : ∀ (sp : List Spt) (r : List UInt8), (∀ s ∈ sp, placesB s.2 = true ∧ 1 ≤ s.1 ∧ s.1 ≤ 4) → spotsS sp.length (some (sp.flatMap spotBytes ++ r)) = (sp, some r)
  | [], r, _ => rfl
  | s :: sp, r, h => by
    obtain ⟨h1, h2, h3⟩ := h s List.mem_cons_self
    have e : (s :: sp).flatMap spotBytes ++ r = numBytes (numNat s.1) ++ (risingBytes s.2 ++ (sp.flatMap spotBytes ++ r)) := by rw [List.flatMap_cons, spotBytes]; simp only [List.append_assoc]
    have e2 : ((numNat s.1 : Nat) : Int) = s.1 := by unfold numNat; omega
    have hn : numS 4 (some (numBytes (numNat s.1) ++ (risingBytes s.2 ++ (sp.flatMap spotBytes ++ r)))) = (numNat s.1, some (risingBytes s.2 ++ (sp.flatMap spotBytes ++ r))) := numS_num (by omega) (by omega) _
    rw [List.length_cons, e, spotsS_some, hn]
    simp only
    rw [risingS_rising h1]
    simp only
    rw [spotsS_spots sp r (fun q hq => h q (List.mem_cons_of_mem _ hq)), e2]
theorem spotsS_back : ∀ (n : Nat) (o : Option (List UInt8)) (sp : List Spt) (r : List UInt8), spotsS n o = (sp, some r) → o = some (sp.flatMap spotBytes ++ r) ∧ sp.length = n
  | 0, o, sp, r, h => by
    unfold spotsS at h
    injection h with h1 h2
    subst h1; subst h2
    exact ⟨rfl, rfl⟩
  | n + 1, o, sp, r, h => by
    cases o with
    | none => rw [spotsS_none] at h; simp at h
    | some bs =>
      rw [spotsS_some] at h
      cases hn : numS 4 (some bs) with
      | mk x o1 =>
        rw [hn] at h
        simp only at h
        cases hr : risingS 60 59 o1 with
        | mk l o2 =>
          rw [hr] at h
          simp only at h
          cases hs : spotsS n o2 with
          | mk q o3 =>
            rw [hs] at h
            injection h with h1 h2
            simp only at h1 h2
            subst h1; subst h2
            obtain ⟨k1, k2⟩ := spotsS_back n o2 q r hs
            subst k1
            have k3 := risingS_back hr
            subst k3
            obtain ⟨k4, k5, k6⟩ := numS_back hn
            rw [k4]
            refine ⟨?_, by simp [k2]⟩
            rw [List.flatMap_cons, spotBytes, numNat_nat]
            simp only [List.append_assoc]
theorem postS_post {p : Post} (h : fitsB p = true) {last : Int} (h0 : -1 ≤ last) (h1 : last < p.doc) (r : List UInt8) : postS last (some (postBytes last p ++ r)) = (p, some r) := by
  have hf := fitsB_fits h
  have e : postBytes last p ++ r = numBytes (numNat (p.doc - last - 1)) ++ (numBytes p.spots.length ++ (p.spots.flatMap spotBytes ++ r)) := by unfold postBytes; simp only [List.append_assoc]
  have d1 := hf.d1
  have n1 := hf.n1
  have e2 : ((numNat (p.doc - last - 1) : Nat) : Int) = p.doc - last - 1 := by unfold numNat; omega
  have hn : numS (65534 - last) (some (postBytes last p ++ r)) = (numNat (p.doc - last - 1), some (numBytes p.spots.length ++ (p.spots.flatMap spotBytes ++ r))) := by rw [e]; exact numS_num (by omega) (by omega) _
  have hn2 : numS 4 (some (numBytes p.spots.length ++ (p.spots.flatMap spotBytes ++ r))) = (p.spots.length, some (p.spots.flatMap spotBytes ++ r)) := numS_num (by omega) (by omega) _
  have hs := spotsS_spots p.spots r (fun s hs => ⟨hf.pl s hs, hf.f s hs⟩)
  unfold postS
  rw [hn]
  simp only
  rw [hn2]
  simp only
  rw [hs, e2]
  simp only
  congr 1
  cases p with
  | mk d sp => simp only; congr 1; omega
theorem postS_back {last : Int} {o : Option (List UInt8)} {p : Post} {r : List UInt8} (h : postS last o = (p, some r)) : o = some (postBytes last p ++ r) ∧ last < p.doc := by
  unfold postS at h
  cases hn : numS (65534 - last) o with
  | mk x o1 =>
    rw [hn] at h
    simp only at h
    cases hn2 : numS 4 o1 with
    | mk n o2 =>
      rw [hn2] at h
      simp only at h
      cases hs : spotsS n o2 with
      | mk sp o3 =>
        rw [hs] at h
        injection h with h1 h2
        simp only at h1 h2
        subst h1; subst h2
        obtain ⟨k1, k2⟩ := spotsS_back n o2 sp r hs
        subst k1
        obtain ⟨k3, _, _⟩ := numS_back hn2
        subst k3
        obtain ⟨k4, _, _⟩ := numS_back hn
        refine ⟨?_, by show last < last + 1 + (x : Int); omega⟩
        rw [k4]
        unfold postBytes
        have e : numNat (last + 1 + (x : Int) - last - 1) = x := by rw [show last + 1 + (x : Int) - last - 1 = (x : Int) by omega]; exact numNat_nat x
        simp only
        rw [e, k2]
        simp only [List.append_assoc]
/-- The runs behind a document, as bytes. -/
def runsN : Nat → Int → List Post → List UInt8
  | 0, _, _ => []
  | k + 1, last, l => chunkBytes last (l.take 4) ++ runsN k (lastD last (l.take 4)) (l.drop 4)
def runsB (last : Int) (l : List Post) : List UInt8 := runsN ((l.length + 3) / 4) last l
theorem runsB_nil (last : Int) : runsB last [] = [] := rfl
theorem runsB_cons (last : Int) {l : List Post} (h : l ≠ []) : runsB last l = chunkBytes last (l.take 4) ++ runsB (lastD last (l.take 4)) (l.drop 4) := by
  have hl : 0 < l.length := List.length_pos_iff.2 h
  unfold runsB
  rw [List.length_drop]
  obtain ⟨k, hk⟩ : ∃ k, (l.length + 3) / 4 = k + 1 := ⟨(l.length + 3) / 4 - 1, by omega⟩
  rw [hk, runsN, show (l.length - 4 + 3) / 4 = k by omega]
theorem foldB_from (l : List Post) : ∀ (k j : Nat) (last : Int) (X : List UInt8), (((List.range' j k).map (4 * ·)).foldl (stepB l) (last, X)).2 = X ++ runsN k last (l.drop (4 * j))
  | 0, j, last, X => by simp [runsN]
  | k + 1, j, last, X => by
    rw [List.range'_succ, List.map_cons, List.foldl_cons, runsN, stepB]
    simp only
    rw [foldB_from l k (j + 1), List.append_assoc, List.drop_drop, show 4 * j + 4 = 4 * (j + 1) by omega]
theorem encB_runs (l : List Post) : encB l = numBytes l.length ++ runsB (-1) l := by
  unfold encB foldB starts runsB
  rw [List.range_eq_range', foldB_from]
  rfl
end Go.Proofs.Ytbeejmedekgjjaa
