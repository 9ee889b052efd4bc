/- An act done to both devices: plain. -/
import Derived.Test.YtjfjeajbekhmdaaPgX
namespace Go.Proofs.Ytjfjeajbekhmdaa
open Go.RowKit Go.Maps
set_option linter.unusedVariables false
set_option linter.unusedSimpArgs false
/-- An act: what, where, how much, bytes, pages to keep. -/
structure Deed where
  op : Int
  i : Int
  n : Int
  b : List UInt8
  keep : List Int
/-- Which act: op as a number without sign, modulo 6. -/
def Deed.kind (k : Deed) : Int := (IntKind.u64.wrap k.op).tmod 6
def Dsk.did (d : Dsk) (k : Deed) : Dsk :=
  if k.kind = 3 then d.synced else if k.kind = 4 then d.crashed k.keep k.i k.n else if k.kind = 5 then d.fused k.n else d.wrote k.i (k.b.take 200)
theorem Dsk.Ok.did {d : Dsk} (h : d.Ok) {k : Deed} (hn : k.n ≤ 9223372036854775807) : (d.did k).Ok := by
  unfold Dsk.did
  split
  · exact h.synced
  · split
    · exact h.crashed _ _ _
    · split
      · exact h.fused hn
      · exact h.wrote _ _
end Go.Proofs.Ytjfjeajbekhmdaa
