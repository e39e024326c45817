/- The examples of messages, in plain words. -/
import Derived.Test.YtpnhoafmlhlfgaaGreatCGIj
namespace Go.Sx
open Go
abbrev x1 : MD := ⟨1, 3, [97], [102], []⟩
abbrev x2 : MD := ⟨2, 1, [99], [], [120]⟩
abbrev rC : T3 := ([99], [99, 0], false)
abbrev rA : T3 := ([97], [102], false)
theorem cv_of {l rs c : List T3} (hp : rs.Perm ((l.filter fun d => !emR d).map foR)) (hs : LoS rs) (e : rs.foldl cvP [] = c) : IsCv l c := e ▸ cvP_is hp hs
end Go.Sx

