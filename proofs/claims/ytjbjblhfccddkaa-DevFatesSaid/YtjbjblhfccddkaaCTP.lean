/- Part of a proof: a script's calls, as they lie in memory; places. -/
import Derived.Test.YtjbjblhfccddkaaCTO
namespace Go.Sx
open Go Go.Proofs
/-- A call of a script. -/
structure VOp where
  k : Int
  on : Int
  a : Int
  b : Int
  by_ : UInt8
  ta : Option Addr
  tc : Nat
  t : Bs
  fa : Option Addr
  fc : Nat
  fs : List Int
  done : Bool
@[reducible] def VOp.cells (o : VOp) : List Value := [.int .i64 o.k, .int .i64 o.on, .int .i64 o.a, .int .i64 o.b, bv o.by_, .slice o.ta o.t.length o.tc, .slice o.fa o.fs.length o.fc, .bool o.done]
instance : Cel VOp := ⟨8, VOp.cells, fun _ => rfl, fun _ => rfl, by decide⟩
def VOp.do (o : VOp) : DO := ⟨o.k, o.a, o.b, o.by_, o.t, o.fs, o.done⟩
/-- A place and its values. -/
structure Pl where
  n : Int
  va : Option Addr
  vc : Nat
  vs : Bs
@[reducible] def Pl.cells (o : Pl) : List Value := [.int .i64 o.n, .slice o.va o.vs.length o.vc]
instance : Cel Pl := ⟨2, Pl.cells, fun _ => rfl, fun _ => rfl, by decide⟩
/-- What can be read of a call. -/
structure RVo (w0 : World) (H : List Ck) (o : VOp) : Prop where
  t : RBy w0 H o.ta o.tc o.t
  f : RSl w0 H o.fa o.fc o.fs
  a : I64 o.a
  b : I64 o.b
  zt : o.t.length ≤ 140737488355328
  zf : o.fs.length ≤ 17592186043904
theorem RVo.tl {w0 : World} {H : List Ck} {o : VOp} {d : Ck} (h : RVo w0 H o) : RVo w0 (d :: H) o := ⟨h.t.tl, h.f.tl, h.a, h.b, h.zt, h.zf⟩
end Go.Sx
