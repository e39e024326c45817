/- Slices of slices of entries, as a row hands them in. -/
import Derived.Test.YtpnhoafmlhlfgaaCKB
namespace Go.Sx
open Go Go.ChangeShapes Go.WideShapes Go.Deep Go.RowKit
abbrev SE.good (w : World) (s : SE) : Prop := GSl (fun w (y : KV) => (By w y.ka y.kc y.k ∧ By w y.va y.vc y.v) ∧ y.k.length ≤ Rb ∧ y.v.length ≤ Rb) 48 w s.a s.c s.xs
theorem opc_es {P : Program} {T E : TypeId} (u : P.underlying T = some (.slice E)) (c : P.cellsOf E = 2) (y : P.bytesOf E = 48) (h : OpC P E KV (fun w (y : KV) => (By w y.ka y.kc y.k ∧ By w y.va y.vc y.v) ∧ y.k.length ≤ Rb ∧ y.v.length ≤ Rb)) : OpC P T SE SE.good := ⟨fun {_ _ _ _ _ _ _ _ _} ht hw => by
  haveI := h
  obtain ⟨a, cq, xs, e, g⟩ := open_sl (E := E) (α := KV) (good := fun w (y : KV) => (By w y.ka y.kc y.k ∧ By w y.va y.vc y.v) ∧ y.k.length ≤ Rb ∧ y.v.length ≤ Rb) u c y ht hw
  exact ⟨⟨a, cq, xs⟩, e, g⟩⟩
end Go.Sx
