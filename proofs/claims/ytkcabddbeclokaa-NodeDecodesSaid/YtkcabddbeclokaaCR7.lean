/- A row's node has lengths in its reach. -/
import Derived.Test.YtkcabddbeclokaaCR6
import Derived.Test.YtkcabddbeclokaaCVL
namespace Go.Sx
open Go
theorem Nd.good.fit {w : World} {n : Nd} (h : Nd.good w n) : n.Fit := by
  refine ⟨fun p hp => ?_, fun m hm => ?_⟩
  · have := h.k.el p hp; simp only [Rb] at this; omega
  · have h1 := (h.ms.el m hm).zl
    have h2 := (h.ms.el m hm).zh
    have h3 := (h.ms.el m hm).zv
    simp only [Rb] at h1 h2 h3
    omega
end Go.Sx
