/- The examples of messages, in plain words. -/
import Derived.Test.YtpnhoafmlhlfgaaCGI
namespace Go.Sx
open Go
abbrev x1 : MD := ⟨1, 3, [97], [102], []⟩
abbrev x2 : MD := ⟨2, 1, [99], [], [120]⟩
abbrev x3 : MD := ⟨3, 2, [107], [], []⟩
abbrev rK : T3 := ([107], [107, 0], false)
abbrev rC : T3 := ([99], [99, 0], false)
abbrev rA : T3 := ([97], [102], false)
theorem cv_of {l rs c : List T3} (hp : rs.Perm ((l.filter fun d => !emR d).map foR)) (hs : LoS rs) (e : rs.foldl cvP [] = c) : IsCv l c := e ▸ cvP_is hp hs
theorem ex_cv1 : IsCv ([] ++ [saidR x3]) [rK] := cv_of (rs := [rK]) (by decide) (by decide) (by decide)
theorem ex_cv2 : IsCv ([rK] ++ [saidR x2]) [rC, rK] := cv_of (rs := [rC, rK]) (by decide) (by decide) (by decide)
theorem ex_cv3 : IsCv ([rC, rK] ++ [saidR x1]) [rA, rK] := cv_of (rs := [rA, rC, rK]) (by decide) (by decide) (by decide)
theorem ex_cv4 : IsCv [rK, ([97], [99], false), ([99, 0], [102], false)] [([97], [99], false), ([99, 0], [102], false), rK] := cv_of (rs := [([97], [99], false), ([99, 0], [102], false), rK]) (by decide) (by decide) (by decide)
abbrev exP : List PD := [⟨false, [], [], ([97], [99], false)⟩, ⟨true, [99], [120], t30⟩, ⟨false, [], [], ([99, 0], [102], false)⟩, ⟨false, [], [], rK⟩]
theorem ex_st : MnSt [x1, x2, x3] [rA, rK] [rK, ([97], [99], false), ([99, 0], [102], false)] [⟨true, [99], [120], t30⟩] := by
  have h1 := MnSt.nil.gone (m := x3) (by decide) ex_cv1
  rw [show ([] : List T3) ++ woR (saidR x3) [] = [rK] by decide] at h1
  have h2 := h1.put (m := x2) (by decide) rfl ex_cv2
  have h3 := h2.gone (m := x1) (by decide) ex_cv3
  rw [show [rK] ++ woR (saidR x1) [rC, rK] = [rK, ([97], [99], false), ([99, 0], [102], false)] by decide] at h3
  exact h3
theorem ex_mean : IsMean [x1, x2, x3] exP := mean_of ex_st ex_cv4 (by decide) (by decide)
end Go.Sx
