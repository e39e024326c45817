/- Part of a proof: walks through functions of the program, in the words of the calculus of the texts Sx. -/
import Derived.Test.YtbkaabjjmoaijaaCL5
import Derived.Test.YtbkaabjjmoaijaaCKA
namespace Go.Sx
open Go Go.Proofs
set_option maxRecDepth 10000

/-- An empty slice of one's own. -/
def EmpPost (w : World) (v : Value) (w' : World) : Prop := ∃ a c, v = .slice a 0 c ∧ Ex w w' ∧ OwB w' w.heap.size 5 a c []

theorem grow_go (w : World) (m : Nat) (hm : m ≤ 140737488355328) : Fn Try.prog 76 #[.slice none 0 0, .int .i64 m] w (EmpPost w) := by
  refine fn_enter Try.func76 rfl rfl rfl ?_
  refine sxo ?_
  refine c_if rfl (fun h => ?_) (fun h => ?_)
  · refine sxo ?_
    refine l_rw (t := 21) rfl (ci (by omega : _ = ((m : Nat) : Int))) ?_
    refine l_appz (by decide) rfl rfl rfl rfl rfl (by omega) (by omega) (by simp only [maxLen]; omega) ?_
    intro k c w1 hE hk hO hc
    refine ⟨trivial, ?_⟩
    refine sxo ?_
    exact q_ret1 rfl rfl ⟨_, _, rfl, hE, hO⟩
  · refine sxo ?_
    exact q_ret1 rfl rfl ⟨none, 0, rfl, Ext.refl w, Own.nil ..⟩

def sumS (ps : List SB) : Nat := (ps.map (fun p => p.xs.length)).sum
def catS (ps : List SB) : Bs := ps.flatMap SB.xs
theorem sumS_take {ps : List SB} {i : Nat} {p : SB} (h : ps[i]? = some p) : sumS (ps.take (i + 1)) = sumS (ps.take i) + p.xs.length := by
  simp [sumS, List.take_add_one, h]
theorem sumS_le (ps : List SB) (i : Nat) : sumS (ps.take i) ≤ sumS ps := by
  have := congrArg sumS (List.take_append_drop i ps)
  simp only [sumS, List.map_append, List.sum_append] at this ⊢
  omega
theorem catS_len (ps : List SB) : (catS ps).length = sumS ps := by
  induction ps with
  | nil => rfl
  | cons p r ih => simp only [catS, sumS, List.flatMap_cons, List.length_append, List.map_cons, List.sum_cons] at *; omega
theorem catS_take {ps : List SB} {i : Nat} {p : SB} (h : ps[i]? = some p) : catS (ps.take (i + 1)) = catS (ps.take i) ++ p.xs := by
  simp [catS, List.take_add_one, h]

theorem concat_go (w : World) (a : Option Addr) (c : Nat) (ps : List SB) (hs : Bbs w a c ps) (hb : sumS ps ≤ 140737488355328) :
    Fn Try.prog 72 #[.slice a ps.length c] w (CopyPost w (catS ps)) := by
  have hl := hs.len
  refine fn_enter Try.func72 rfl rfl rfl ?_
  refine sxo ?_
  refine c_loop (fun k : Nat => [(0, .slice a ps.length c), (9, .slice a ps.length c), (10, .int .i64 ps.length), (11, .int .i64 k), (3, .int .i64 (sumS (ps.take k) : Nat))])
    (fun k w' => w' = w ∧ k ≤ ps.length) (fun k => ps.length - k) 0 (by exact ⟨rfl, rfl, rfl, rfl, rfl, trivial⟩) ⟨rfl, Nat.zero_le _⟩ ?_
  rintro k w' ⟨hw', hk⟩
  subst hw'
  have hsk := sumS_le ps k
  refine sxo ?_
  refine c_if rfl (fun hlt => ?_) (fun hge => ?_)
  · obtain ⟨p, hp⟩ : ∃ p, ps[k]? = some p := ⟨_, List.getElem?_eq_getElem (by omega)⟩
    obtain ⟨ad, rfl⟩ := hs.some (by omega)
    have hsk1 := sumS_le ps (k + 1)
    rw [sumS_take hp] at hsk1
    refine sxo ?_
    refine q_again (k + 1) ⟨rfl, rfl, rfl, rfl, ?_, trivial⟩ ⟨rfl, by omega⟩ (by omega)
    rw [sumS_take hp]; rfl
  · have : k = ps.length := by omega
    subst this
    rw [List.take_of_length_le (Nat.le_refl _)]
    refine sxo ?_
    refine l_call rfl rfl rfl rfl (grow_go w' _ hb) ?_
    rintro _ w2 ⟨a2, c2, rfl, hE2, hO2⟩
    refine ⟨trivial, ?_⟩
    refine sxo ?_
    refine c_loop (fun x : Nat × Option Addr × Nat => [(25, .slice a ps.length c), (26, .int .i64 ps.length), (27, .int .i64 x.1), (6, .slice x.2.1 (catS (ps.take x.1)).length x.2.2)])
      (fun x w1 => Ex w' w1 ∧ x.1 ≤ ps.length ∧ OwB w1 w'.heap.size 5 x.2.1 x.2.2 (catS (ps.take x.1))) (fun x => ps.length - x.1) (0, a2, c2) (by exact ⟨rfl, rfl, rfl, rfl, trivial⟩) ⟨hE2, Nat.zero_le _, hO2⟩ ?_
    rintro ⟨k, a3, c3⟩ w3 ⟨hE3, hk, hO3⟩
    simp only at hk hO3 ⊢
    have hS3 := hE3.size
    refine sxo ?_
    refine c_if rfl (fun hlt => ?_) (fun hge => ?_)
    · obtain ⟨p, hp⟩ : ∃ p, ps[k]? = some p := ⟨_, List.getElem?_eq_getElem (by omega)⟩
      obtain ⟨ad, rfl⟩ := hs.some (by omega)
      have hs3 := hs.ex hE3
      have hsk1 := sumS_le ps (k + 1)
      rw [sumS_take hp] at hsk1
      refine sxo ?_
      refine l_appB rfl rfl rfl rfl rfl rfl hO3 (hs3.at hp).src (hs3.at hp).nil rfl (by rw [catS_len]; omega) hS3 ?_
      intro a4 c4 w4 hO4 hG4
      refine ⟨trivial, ?_⟩
      refine sxo ?_
      rw [← catS_take hp] at hO4
      refine q_again (k + 1, a4, c4) ⟨rfl, rfl, rfl, ?_, trivial⟩ ⟨hG4.ex0 hE3 hO3 (Nat.le_refl _), by simp only; omega, hO4⟩ (by simp only; omega)
      simp only [catS_take hp, List.length_append]; rfl
    · have : k = ps.length := by omega
      subst this
      rw [List.take_of_length_le (Nat.le_refl _)] at hO3
      refine sxo ?_
      refine q_ret1 rfl rfl ⟨a3, c3, ?_, hE3, hO3⟩
      rw [List.take_of_length_le (Nat.le_refl _)]

/-- Of two. -/
theorem concat2_go (w : World) (b : Nat) (a1 a2 : Option Addr) (c1 c2 n1 n2 : Nat) (x y : Bs) (hB : HB w b 39 [.slice a1 n1 c1, .slice a2 n2 c2]) (h1 : By w a1 c1 x) (h2 : By w a2 c2 y) (e1 : n1 = x.length) (e2 : n2 = y.length)
    (hb : n1 + n2 ≤ 140737488355328) : Fn Try.prog 72 #[.slice (some ⟨b, 0, none⟩) 2 2] w (CopyPost w (x ++ y)) := by
  subst e1
  subst e2
  have := concat_go w _ _ [⟨a1, c1, x⟩, ⟨a2, c2, y⟩] (HB.bbs (ps := [⟨a1, c1, x⟩, ⟨a2, c2, y⟩]) hB (by simp [maxLen]) (by
    intro p hp
    simp only [List.mem_cons, List.not_mem_nil, or_false] at hp
    rcases hp with rfl | rfl
    · exact h1
    · exact h2)) (by simp only [sumS, List.map_cons, List.map_nil, List.sum_cons, List.sum_nil]; omega)
  simpa [catS] using this
end Go.Sx
