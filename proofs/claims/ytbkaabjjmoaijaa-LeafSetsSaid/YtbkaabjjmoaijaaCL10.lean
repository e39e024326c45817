/- Part of a proof: walks through functions of the program, in the words of the calculus of the texts Sx. -/
import Derived.Test.YtbkaabjjmoaijaaCL9
namespace Go.Sx
open Go Go.Proofs
set_option maxRecDepth 10000

theorem take_eq_step {es fs : List KV} {k : Nat} {e f : KV} (he : es[k]? = some e) (hf : fs[k]? = some f) (h : (es.map KV.p).take k = (fs.map KV.p).take k) (h1 : e.k = f.k) (h2 : e.v = f.v) : (es.map KV.p).take (k + 1) = (fs.map KV.p).take (k + 1) := by
  have a1 : (es.map KV.p)[k]? = some (KV.p e) := by simp [he]
  have a2 : (fs.map KV.p)[k]? = some (KV.p f) := by simp [hf]
  rw [take_snoc' a1, take_snoc' a2, h]
  simp [KV.p, h1, h2]
theorem map_ne {es fs : List KV} {k : Nat} {e f : KV} (he : es[k]? = some e) (hf : fs[k]? = some f) (h : ¬ (e.k = f.k ∧ e.v = f.v)) : ¬ es.map KV.p = fs.map KV.p := by
  intro g
  have a1 : (es.map KV.p)[k]? = some (KV.p e) := by simp [he]
  have a2 : (fs.map KV.p)[k]? = some (KV.p f) := by simp [hf]
  rw [g, a2] at a1
  simp only [KV.p, Option.some.injEq, Prod.mk.injEq] at a1
  exact h ⟨a1.1.symm, a1.2.symm⟩

theorem same_go (w : World) (a b : Option Addr) (c d : Nat) (es fs : List KV) (hs : En w a c es) (ht : En w b d fs) :
    Fn Try.prog 23 #[.slice a es.length c, .slice b fs.length d] w (fun v w' => v = .bool (decide (es.map KV.p = fs.map KV.p)) ∧ Ex w w') := by
  have hl := hs.len
  have hl' := ht.len
  refine fn_enter Try.func23 rfl rfl rfl ?_
  refine sxo ?_
  refine c_ifn rfl (fun g => ?_) (fun g => ?_)
  · refine sxo ?_
    refine q_ret1 rfl rfl ⟨?_, Ext.refl w⟩
    rw [decide_eq_false]
    intro g'
    have := congrArg List.length g'
    simp only [List.length_map] at this
    omega
  have hlen : es.length = fs.length := by omega
  refine sxo ?_
  refine c_loop (fun k : Nat => [(0, .slice a es.length c), (1, .slice b fs.length d), (5, .int .i64 k)])
    (fun k w' => Ex w w' ∧ k ≤ es.length ∧ (es.map KV.p).take k = (fs.map KV.p).take k) (fun k => es.length - k) 0 (by exact ⟨rfl, rfl, rfl, trivial⟩) ⟨Ext.refl w, Nat.zero_le _, rfl⟩ ?_
  rintro k w1 ⟨hE, hk, htk⟩
  refine sxo ?_
  refine c_if rfl (fun hlt => ?_) (fun hge => ?_)
  · obtain ⟨e, he⟩ := get_lt es k (by omega)
    obtain ⟨f, hf⟩ := get_lt fs k (by omega)
    obtain ⟨ad, rfl⟩ := hs.some (by omega)
    obtain ⟨bd, rfl⟩ := ht.some (by omega)
    have hs1 := hs.ex hE
    have ht1 := ht.ex hE
    refine sxo ?_
    refine c_dr (fun _ => False) (.one true 0 (.one true 1 (.one true 2 (.one true 3 (.one true 4 (.one true 5 (.one true 6 (.one true 7 (.one true 8 (.one true 9 (.one true 10 (.one true 11 (.one true 12 (.one true 13 (.one true 14 (.one true 15 (.one true 16 (.one true 17 (.one true 18 (.one true 19 (.one true 20 (.one true 21 (.one true 22 (.one true 23 (.one true 24 (.one true 25 (.one true 26 (.one true 27 .nil)))))))))))))))))))))))))))) mixed (by kernel_rfl) ?_
    intro w2 hE2 hh
    have hek := (hs1.at he).1
    have hev := (hs1.at he).2
    have hfk := (ht1.at hf).1
    have hfv := (ht1.at hf).2
    refine sxo ?_
    refine l_ifn (p := e.k = f.k) rfl (fun h1 => ?_) (fun h1 => ?_)
    · refine sxo ?_
      refine q_ret1 rfl rfl ⟨?_, hE.trans hE2⟩
      rw [decide_eq_false (map_ne he hf (fun g => h1 g.1))]
    · refine sxo ?_
      refine c_ifn (p := e.v = f.v) rfl (fun h2 => ?_) (fun h2 => ?_)
      · refine sxo ?_
        refine q_ret1 rfl rfl ⟨?_, hE.trans hE2⟩
        rw [decide_eq_false (map_ne he hf (fun g => h2 g.2))]
      · refine sxo ?_
        exact q_again (k + 1) ⟨rfl, rfl, rfl, trivial⟩ ⟨hE.trans hE2, by omega, take_eq_step he hf htk h1 h2⟩ (by omega)
  · have hke : k = es.length := by omega
    subst hke
    refine sxo ?_
    refine q_ret1 rfl rfl ⟨?_, hE⟩
    rw [List.take_of_length_le (by simp), List.take_of_length_le (by simp; omega)] at htk
    rw [decide_eq_true htk]
end Go.Sx
