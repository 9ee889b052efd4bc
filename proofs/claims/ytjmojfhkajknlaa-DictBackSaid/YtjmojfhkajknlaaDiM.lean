/- A dictionary that no call made: the walks. -/
import Derived.Test.YtjmojfhkajknlaaDiL
import Derived.Test.YtjmojfhkajknlaaSrch
import Derived.Deep.RegionHeld3
namespace Go.Proofs.Ytjmojfhkajknlaa
open Go.RowKit
set_option linter.unusedVariables false
set_option linter.unusedSimpArgs false
/-- No dictionary, or one that has nothing. -/
def Emp (w : World) (p : Option Addr) : Prop := p = none ∨ ∃ g, p = some ⟨g, 0, none⟩ ∧ DOk w g []
theorem Emp.below {w w' : World} {p : Option Addr} (h : Emp w p) (hb : Below w.heap.size w w') : Emp w' p := by
  rcases h with rfl | ⟨g, rfl, h⟩
  · exact .inl rfl
  · exact .inr ⟨g, rfl, h.below hb⟩
theorem emp_len (p : Option Addr) (w : World) (h : Emp w p) :
    Calls Try.prog 12 #[.pointer p] w fun e w' => e = .returned (.int .i64 0) ∧ w = w' := by
  rcases h with rfl | ⟨g, rfl, h⟩
  · go_enter Try.func12, Try.ntmps12
    go_wp2
    go_returns
    exact ⟨rfl, rfl⟩
  · exact len_any g [] w h
theorem emp_at (p : Option Addr) (i : Int) (w : World) (h : Emp w p) :
    Calls Try.prog 11 #[.pointer p, .int .i64 i] w fun e w' => e = .returned (.tuple #[.string ⟨#[]⟩, .bool false]) ∧ w = w' := by
  have HLn := Lib.hid (emp_len p w h)
  clear h
  by_cases h0 : i < 0
  · have h1 : decide (i < 0) = true := decide_eq_true h0
    go_enter Try.func11, Try.ntmps11
    go_wp2
    go_ret2
    exact ⟨rfl, rfl⟩
  · have h1 : decide (i < 0) = false := decide_eq_false h0
    have h2 : decide (i ≥ 0) = true := decide_eq_true (by omega)
    have h3 : decide (0 ≤ i) = true := decide_eq_true (by omega)
    go_enter Try.func11, Try.ntmps11
    go_wp2_with (go_at_call 12; refine HLn.out.mono ?_; rintro e w' ⟨rfl, rfl⟩)
    go_ret2
    exact ⟨rfl, rfl⟩
theorem emp_words (p : Option Addr) (w : World) (h : Emp w p) :
    Calls Try.prog 14 #[.pointer p] w fun e w' => e = .returned (.slice none 0 0) ∧ w = w' := by
  have HLn := Lib.hid (emp_len p w h)
  clear h
  go_enter Try.func14, Try.ntmps14
  go_wp2_with (go_at_call 12; refine HLn.out.mono ?_; rintro e w' ⟨rfl, rfl⟩)
  go_ret
  exact ⟨rfl, rfl⟩
theorem emp_bytes (p : Option Addr) (w : World) (h : Emp w p) :
    Calls Try.prog 16 #[.pointer p] w fun e w' => ∃ v, e = .returned v ∧ OB w' w.heap.size v [0] ∧ Below w.heap.size w w' :=
  bytes_of p [] w (by decide) (fun x hx => by cases hx) (emp_len p w h)
    (fun w' hb => (emp_words p w' (h.below hb)).mono fun e w'' ⟨h1, h2⟩ => by subst h2; exact ⟨_, h1, World.ownsRow_nil _ _ _ _, Below.refl _ _⟩)
set_option maxHeartbeats 800000 in
theorem emp_seek (p : Option Addr) (s : ByteArray) (w : World) (h : Emp w p) :
    Calls Try.prog 20 #[.pointer p, .string s] w fun e w' => e = .returned (.tuple #[.int .i64 0, .bool false]) ∧ Below w.heap.size w w' := by
  have HLn := Lib.hid (emp_len p _ (h.below (((Below.refl w.heap.size w).alloc (Nat.le_refl _) (.cells #[.pointer p] 25)).alloc (by simp) (.cells #[.string s] 9))))
  clear h
  go_enter Try.func20, Try.ntmps20
  go_wp2_with (go_at_call 12; refine HLn.out.mono ?_; rintro e w' ⟨rfl, rfl⟩)
  go_ret2
  exact ⟨rfl, ((Below.refl _ _).alloc (Nat.le_refl _) _).alloc (by simp) _⟩
set_option maxHeartbeats 1600000 in
theorem emp_range (p : Option Addr) (s : ByteArray) (w : World) (h : Emp w p) :
    Calls Try.prog 22 #[.pointer p, .string s] w fun e w' => e = .returned (.tuple #[.int .i64 0, .int .i64 0]) ∧ Below w.heap.size w w' := by
  have b0 := ((Below.refl w.heap.size w).alloc (Nat.le_refl _) (.cells #[.pointer p] 25)).alloc (by simp) (.cells #[.string s] 9)
  have HSk := Lib.hid (emp_seek p s _ (h.below b0))
  have B0 := Lib.hid b0
  have HLn : Hid (∀ w', Below w.heap.size w w' → Calls Try.prog 12 #[.pointer p] w' fun e w'' => e = .returned (.int .i64 0) ∧ w' = w'') := fun w' hb => emp_len p w' (h.below hb)
  have s0 : w.heap.size + 2 = ((w.alloc (.cells #[.pointer p] 25)).alloc (.cells #[.string s] 9)).heap.size := by simp
  have S0 := Lib.hid s0
  have c0 : ((w.alloc (.cells #[.pointer p] 25)).alloc (.cells #[.string s] 9)).cell? ⟨w.heap.size, 0, none⟩ = some (.pointer p) := tmp_under _ _ _ _
  have C0 := Lib.hid c0
  clear h b0 s0 c0
  go_enter Try.func22, Try.ntmps22
  go_wp2_with fail
  refine HSk.out.mono ?_
  rintro e w1 ⟨rfl, hb1⟩
  have hs1 := hb1.size
  rw [← S0.out] at hs1
  have c1 : w1.cell? ⟨w.heap.size, 0, none⟩ = some (.pointer p) := by
    rw [hb1.cell (p := ⟨w.heap.size, 0, none⟩) (by show w.heap.size < _; rw [← S0.out]; omega)]; exact C0.out
  have hb := B0.out.trans (hb1.mono (by rw [← S0.out]; omega))
  have hlt : w.heap.size < w1.heap.size := by omega
  clear hb1 HSk C0 B0 S0
  go_wp2_with fail
  have cD : (w1.alloc (.cells #[.int .i64 0] 3)).cell? ⟨w.heap.size, 0, none⟩ = some (.pointer p) := by
    rw [World.cell?_alloc_lt _ _ _ (World.block_lt_of_cell? _ _ c1)]; exact c1
  have cF := tmp_here w1 (.int .i64 0) 3
  have hbW : Below w.heap.size w (w1.alloc (.cells #[.int .i64 0] 3)) := hb.alloc hb.size _
  generalize w1.heap.size = q at cF ⊢
  generalize w1.alloc (.cells #[.int .i64 0] 3) = W at cD cF hbW ⊢
  have hq := World.block_lt_of_cell? _ _ cF
  have hd := World.block_lt_of_cell? _ _ cD
  have HLn2 : Hid (∀ w', Below w.heap.size w w' → Calls Try.prog 12 #[.pointer p] w' fun e w'' => e = .returned (.int .i64 0) ∧ w' = w'') := HLn
  have hbD := hbW.drew
  have HSr : Hid (∀ cb : Array Value, Calls Try.prog 33 #[.int .i64 0, .func (.func 36) #[] cb] W.drew fun e w' => e = .returned (.int .i64 0) ∧ Below W.drew.heap.size W.drew w') := fun cb =>
    search_any 36 cb 0 0 (fun _ => true) W.drew (fun args w => enters_of Try.func36 (by kernel_rfl) rfl args w) (by decide) (fun w' i _ hi => by omega) (Nat.le_refl _) (fun t ht => by omega) (fun t _ ht => by omega)
  clear hb c1 HLn
  go_region_held3 (fun w' => w'.cell? ⟨w.heap.size, 0, none⟩ = some (.pointer p) ∧ w'.cell? ⟨q, 0, none⟩ = some (.int .i64 0)) (go_keep) (first
    | (go_at_call 12; refine (HLn2.out _ hbD).mono ?_; rintro e w' ⟨rfl, rfl⟩)
    | (go_at_call 33; refine (HSr.out _).mono ?_; rintro e w3 ⟨rfl, hb3⟩; have kD : w3.cell? ⟨w.heap.size, 0, none⟩ = some (.pointer p) := (hb3.cell (p := ⟨w.heap.size, 0, none⟩) hd).trans cD; have kF : w3.cell? ⟨q, 0, none⟩ = some (.int .i64 0) := (hb3.cell (p := ⟨q, 0, none⟩) hq).trans cF; have hbE := hbD.trans (hb3.mono hbD.size)))
  all_goals go_wp2
  all_goals go_ret2
  all_goals exact ⟨rfl, by assumption⟩
end Go.Proofs.Ytjmojfhkajknlaa
