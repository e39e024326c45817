/- Part of a proof: several parts of a walk, one behind the other. -/
import Derived.Test.YtpnhoafmlhlfgaaGreatCML
import Derived.Test.YtpnhoafmlhlfgaaGreatCKB
import Derived.Test.YtpnhoafmlhlfgaaGreatCMVj
namespace Go.Sx
open Go Go.Proofs
set_option maxRecDepth 10000
variable {w0 : World} {H : List Ck}
end Go.Sx
namespace Go.Sx
open Go Go.Proofs
set_option maxRecDepth 10000
variable {w0 : World} {H : List Ck}
/-- So much is in lists of entries. -/
def sumLs (ls : List SE) : Nat := (ls.map fun s => 1 + sumG s.xs).sum
theorem sumLs_snoc (ls : List SE) (s : SE) : sumLs (ls ++ [s]) = sumLs ls + (1 + sumG s.xs) := by simp [sumLs]
theorem sumLs_get {ls : List SE} {s : SE} (h : s ∈ ls) : 1 + sumG s.xs ≤ sumLs ls := by
  induction ls with
  | nil => cases h
  | cons x ls ih =>
    simp only [sumLs, List.map_cons, List.sum_cons] at ih ⊢
    rcases List.mem_cons.1 h with rfl | h
    · omega
    · have := ih h
      omega
theorem sumLs_len : ∀ ls : List SE, ls.length ≤ sumLs ls
  | [] => Nat.zero_le _
  | s :: ls => by
    have := sumLs_len ls
    simp only [sumLs, List.map_cons, List.sum_cons, List.length_cons] at *
    omega
theorem sumG_mem {l : List KV} {e : KV} (h : e ∈ l) : 6 + e.k.length + e.v.length ≤ sumG l := by
  induction l with
  | nil => cases h
  | cons x l ih =>
    simp only [sumG, List.map_cons, List.sum_cons] at ih ⊢
    rcases List.mem_cons.1 h with rfl | h
    · omega
    · have := ih h
      omega
theorem unN_len : ∀ (n : Nat) (ls : List (List Pp)), (unN n ls).length ≤ n
  | 0, _ => Nat.le_refl _
  | n + 1, ls => by
    unfold unN
    split
    · exact Nat.zero_le _
    · split
      · have := unN_len n
        rw [List.length_cons]
        exact Nat.succ_le_succ (this _)
      · exact Nat.zero_le _
theorem Maps.tot : ∀ {fs : List OfD} {ls : List SE}, Maps fs ls → Sx.tot (fs.map OfD.l) ≤ sumLs ls
  | [], _, _ => Nat.zero_le _
  | _ :: _, [], h => by have := h.1; simp at this
  | d :: fs, s :: ls, h => by
    have h0 := h.2 0 d s rfl rfl
    have ih := Maps.tot (fs := fs) (ls := ls) ⟨by have := h.1; simpa using this, fun i d' s' hd hs => h.2 (i + 1) d' s' (by simpa using hd) (by simpa using hs)⟩
    have h4 := h0.2.2.2
    have h5 := sumG_len s.xs
    rw [List.map_cons, tot_cons]
    simp only [sumLs, List.map_cons, List.sum_cons] at ih ⊢
    omega
theorem un_sm {ls : List (List Pp)} (h : ∀ l ∈ ls, SmL l) : SmL (unionL ls) := fun e he => by
  obtain ⟨l, hl, hel⟩ := unN_mem _ _ e he
  exact h l hl e hel
theorem tot_app (a b : List (List Pp)) : Sx.tot (a ++ b) = Sx.tot a + Sx.tot b := by simp [Sx.tot]
theorem un_len (ls : List (List Pp)) : (unionL ls).length ≤ Sx.tot ls := unN_len _ _
structure MuK where
  i : Nat
  a : Option Addr
  c : Nat
  ks : List SB
structure MuI where
  i : Nat
  a : Option Addr
  c : Nat
  fs : List OfD
end Go.Sx
