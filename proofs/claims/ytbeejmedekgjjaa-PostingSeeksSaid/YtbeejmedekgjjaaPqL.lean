/- Encode and Decode of postings, each in one word. -/
import Derived.Test.YtbeejmedekgjjaaPoG
import Derived.Test.YtbeejmedekgjjaaPpC
namespace Go.Proofs.Ytbeejmedekgjjaa
open Go.RowKit
set_option linter.unusedVariables false
set_option linter.unusedSimpArgs false
def encV (l : List Post) : List UInt8 := if chkB l then encB l else []
theorem encB_len {l : List Post} (h : chkB l = true) : (encB l).length ≤ 200000000 := by
  have h1 := (chkFrom_fits _ _ h).1
  have h2 := chkB_len h
  have h3 := (foldB_bounds h1 (starts ((l.length + 3) / 4))).2.2
  have h4 : (starts ((l.length + 3) / 4)).length = (l.length + 3) / 4 := by simp [starts]
  rw [h4] at h3
  show (foldB l (starts ((l.length + 3) / 4))).2.length ≤ _
  omega
theorem encV_len (l : List Post) : (encV l).length ≤ 200000000 := by
  unfold encV
  split
  next h => exact encB_len h
  · simp
theorem enc_gen (A : Option Addr) (c : Nat) (ls : List LPost) (w : World) (h : Posts w A c ls) :
    Calls Try.prog 8 #[.slice A ls.length c] w fun e w' => ∃ (A' : Option Addr) (c' : Nat), e = .returned (.tuple #[.slice A' (encV (ls.map LPost.p)).length c', .int .i64 (chkE (ls.map LPost.p))]) ∧ RB w' A' (encV (ls.map LPost.p)) ∧ (encV (ls.map LPost.p)).length ≤ c' ∧ (A' = none → c' = 0) ∧ Below w.heap.size w w' := by
  cases hk : chkB (ls.map LPost.p) with
  | false =>
    refine (encode_no A c ls w h hk).mono ?_
    rintro e w' ⟨rfl, hb⟩
    unfold encV chkE
    rw [hk]
    exact ⟨none, 0, rfl, Lies.nil _ _, Nat.le_refl _, fun _ => rfl, hb⟩
  | true =>
    refine (encode_ok A c ls w h hk).mono ?_
    rintro e w' ⟨v, rfl, hv, hb⟩
    unfold encV chkE
    rw [hk]
    obtain ⟨A', c', rfl, hc, hn⟩ := hv.form
    exact ⟨A', c', rfl, RB.of_own hv, hc, hn, hb⟩
def decE (o : Option (List Post)) : Int := if o.isSome then 0 else 3
theorem posts_nil (w : World) : Posts w none 0 [] := ⟨Lies.nil _ _, by simp, Nat.le_refl _, Nat.zero_le _⟩
theorem dec_gen (A : Option Addr) (c : Nat) (bs : List UInt8) (w : World) (hm : bs.length ≤ 140737488355300) (hA : A = none → c = 0) (hr : RB w A bs) :
    Calls Try.prog 10 #[.slice A bs.length c] w fun e w' => ∃ (A' : Option Addr) (c' : Nat) (ls : List LPost), e = .returned (.tuple #[.slice A' ls.length c', .int .i64 (decE (decP bs))]) ∧ Posts w' A' c' ls ∧ ls.map LPost.p = (decP bs).getD [] ∧ Below w.heap.size w w' := by
  refine (decode_any A c bs w hm hA hr).mono ?_
  rintro e w' ⟨hb, h0, h1⟩
  cases hd : decP bs with
  | none => exact ⟨none, 0, [], h0 hd, posts_nil _, rfl, hb⟩
  | some l =>
    obtain ⟨A', c', ls, he, hp, hl⟩ := h1 l hd
    exact ⟨A', c', ls, he, hp, hl, hb⟩
end Go.Proofs.Ytbeejmedekgjjaa
