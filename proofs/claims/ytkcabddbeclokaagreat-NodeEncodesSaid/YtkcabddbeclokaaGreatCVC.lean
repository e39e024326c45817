/- A node's bytes, by the program and by the document. -/
import Derived.Test.YtkcabddbeclokaaGreatCVB
namespace Go.Sx
open Go Go.Proofs
set_option maxRecDepth 10000
variable {w0 : World} {H : List Ck}
def encN (d : List Int × List Bs) (ms : List MD) : Bs := encK d ++ layM ms
def encNR (size : Int) (d : List Int × List Bs) (ms : List MD) : Bs := if chkN size d ms = 0 then encN d ms else []
theorem mayG_all {size : Int} {ks : List Bs} : ∀ {ms : List MD} {p : Option MD}, mayG size ks p ms = 0 → ∀ m ∈ ms, chkM size [m] = 0
  | [], _, _, m, h => by cases h
  | a :: r, p, h, m, hm => by
    rw [mayG] at h
    by_cases h1 : oneN size ks p a ≠ 0
    · rw [if_pos h1] at h; exact absurd h h1
    · rw [if_neg h1] at h
      rcases List.mem_cons.1 hm with rfl | hm
      · have h2 : oneN size ks p m = 0 := Classical.not_not.1 h1
        unfold oneN at h2
        by_cases h3 : chkM size [m] ≠ 0
        · rw [if_pos h3] at h2; exact h2
        · exact Classical.not_not.1 h3
      · exact mayG_all h m hm
theorem chkN_0 {size : Int} {d : List Int × List Bs} {ms : List MD} (h : chkN size d ms = 0) : chkK size d = 0 ∧ (bytesK d : Int) ≤ (size - 32) / 2 ∧ mayN size d.2 ms = 0 ∧ ((bytesK d + bytesM ms : Nat) : Int) ≤ size - 32 := by
  unfold chkN at h
  by_cases h1 : chkK size d ≠ 0
  · rw [if_pos h1] at h; exact absurd h h1
  rw [if_neg h1] at h
  by_cases h2 : (size - 32) / 2 < (bytesK d : Int)
  · rw [if_pos h2] at h; cases h
  rw [if_neg h2] at h
  by_cases h3 : mayN size d.2 ms ≠ 0
  · rw [if_pos h3] at h; exact absurd h h3
  rw [if_neg h3] at h
  by_cases h4 : size - 32 < ((bytesK d + bytesM ms : Nat) : Int)
  · rw [if_pos h4] at h; cases h
  exact ⟨Classical.not_not.1 h1, by omega, Classical.not_not.1 h3, by omega⟩
theorem chkN_canon {size : Int} {d : List Int × List Bs} {ms : List MD} (h : chkN size d ms = 0) : ∀ m ∈ ms, Canon m := fun m hm =>
  chkM_canon (mayG_all (chkN_0 h).2.2.1 m hm) m (by simp)
theorem four_nb (v : Nat) : four4 (v : Int) = nbN 4 v := by
  have e1 : (v : Int) / 16777216 = ((v / 16777216 : Nat) : Int) := by omega
  have e2 : (v : Int) / 65536 = ((v / 65536 : Nat) : Int) := by omega
  have e3 : (v : Int) / 256 = ((v / 256 : Nat) : Int) := by omega
  rw [four4, e1, e2, e3, ofInt_nat, ofInt_nat, ofInt_nat, ofInt_nat]
  simp only [nbN, List.nil_append, List.cons_append, Nat.div_div_eq_div_mul]
theorem lay_one (m : MD) : layM [m] = nbN 4 1 ++ encM1 m := by simp [layM]
theorem encN_step {d : List Int × List Bs} {ms : List MD} {i : Nat} {m : MD} (h : ms[i]? = some m) : encK d ++ nbN 4 ms.length ++ (ms.take (i + 1)).flatMap encM1 = encK d ++ nbN 4 ms.length ++ (ms.take i).flatMap encM1 ++ encM1 m := by
  rw [flatS encM1 h, List.append_assoc (encK d ++ nbN 4 ms.length)]
abbrev NenR (size : Int) (n : Nd) (H : List Ck) : Value → List Ck → Prop := fun v H' => ∃ a c, v = .tuple #[.slice a (encNR size n.k.d n.md).length c, .int .i64 (chkN size n.k.d n.md)] ∧ H' = ob a c (encNR size n.k.d n.md) :: H
set_option maxHeartbeats 2000000 in
theorem nencode_s {n : Nd} {size : Int} (hn : RNd w0 H n) (hI : ∀ p ∈ n.k.ps, I64 p) (hb : sumM n.md ≤ 549755813888) : FnS Tryz.prog w0 H 11 #[.int .i64 size, .agg n.cells.toArray] (NenR size n H) := by
  refine fns_enter Tryz.func11 rfl rfl rfl ?_
  have hk := hn.k
  have hsl := hn.ms.sl
  refine s_kn (Kn.sl hsl) fun l1 => ?_
  simp only [maxLen] at l1
  refine sx ?_
  refine s_boxA rfl fun b3 => ?_
  refine sx ?_
  refine s_callV rfl (ncheck_s (n := n) (size := size) (by exact rnd) hI (by omega)) ?_
  refine sx ?_
  refine s_ifn rfl (fun t1 => ?_) (fun t1 => ?_)
  · have e : encNR size n.k.d n.md = [] := if_neg t1
    refine sx ?_
    exact s_ret2 (H' := ob none 0 [] :: H) rfl rfl rfl ⟨none, 0, by rw [e]; rfl, by rw [e]⟩ (Ent.addNil (Ent.tl Ent.refl))
  have t1' : chkN size n.k.d n.md = 0 := t1
  obtain ⟨g1, g2, g3, g4⟩ := chkN_0 t1'
  have hsz := sizedB_bd (chkK_0 g1).1
  have hme := mayG_all g3
  have e0 : encNR size n.k.d n.md = encN n.k.d n.md := if_pos t1'
  have er : encR size n.k.d = encK n.k.d := if_pos g1
  have hel := encK_len n.k.d
  have hbm : bytesM n.md = 4 + sumM n.md := rfl
  refine sx ?_
  refine s_call rfl (bencode_s (k := n.k) (size := size) (by exact rkd) hI) ?_
  rintro _ _ ⟨a7, c7, rfl, rfl⟩
  rw [er]
  refine ⟨chk_seq, ?_⟩
  refine sx ?_
  refine s_bsl (four4 ((n.ms.length : Nat) : Int)) rfl rfl fun b42 => ?_
  refine s_app (xs := encK n.k.d) (ys := four4 ((n.ms.length : Nat) : Int)) ?_ (hm := rfl) (hby := by rw [four_nb, nbN_len]; omega)
  intro a8 c8
  rw [four_nb]
  have e4 : encK n.k.d ++ nbN 4 n.ms.length = encK n.k.d ++ nbN 4 n.md.length ++ (n.md.take 0).flatMap encM1 := by simp
  rw [e4]
  refine sx ?_
  refine s_loop (fun i : Nat × Option Addr × Nat => [(0, .int .i64 size), (7, .slice i.2.1 (encK n.k.d ++ nbN 4 n.md.length ++ (n.md.take i.1).flatMap encM1).length i.2.2), (45, .slice n.ma n.ms.length n.mc), (46, .int .i64 n.ms.length), (47, .int .i64 i.1)]) (fun i => ob i.2.1 i.2.2 (encK n.k.d ++ nbN 4 n.md.length ++ (n.md.take i.1).flatMap encM1) :: H) (fun i => i.1 ≤ n.ms.length) (fun i => n.ms.length - i.1) (0, a8, c8) (Nat.zero_le _) ?_
  rintro ⟨i, a1, c1⟩ hi
  simp only at hi ⊢
  refine sx ?_
  refine s_if rfl (fun t2 => ?_) (fun t2 => ?_)
  · obtain ⟨m, hm⟩ := get_lt n.ms i (by omega)
    have hmd := get_map (f := Mg.d) hm
    have hrm := hn.ms.el m (List.mem_of_getElem? hm)
    have hc := hme m.d (List.mem_of_getElem? hmd)
    have hstep := encN_step (d := n.k.d) hmd
    have hsg : sumM (n.md.take (i + 1)) = sumM (n.md.take i) + lenM m.d := sumM_get hmd
    have hst := sumM_take n.md (i + 1)
    have hlen : (encK n.k.d ++ nbN 4 n.md.length ++ (n.md.take i).flatMap encM1).length = bytesK n.k.d + 4 + sumM (n.md.take i) := by rw [List.length_append, List.length_append, encs_len, nbN_len, hel]
    have hml := encM1_len m.d
    generalize encK n.k.d ++ nbN 4 n.md.length ++ (n.md.take i).flatMap encM1 = bs at hstep hlen ⊢
    refine sx ?_
    refine s_alloc fun b11 => ?_
    refine sx ?_
    refine s_bsl [m] rfl rfl fun b54 => ?_
    refine sx ?_
    have h1 : sumM (List.map Mg.d [m]) = lenM m.d := by simp [sumM]
    refine s_call rfl (mencode_s (ms := [m]) (size := size) (RMs.one (by exact rmg)) (by rw [h1]; have := hb; omega)) ?_
    rintro _ _ ⟨a12, c12, rfl, rfl⟩
    refine ⟨chk_seq, ?_⟩
    have em : List.map Mg.d [m] = [m.d] := rfl
    have e5 : encL size [m.d] = nbN 4 1 ++ encM1 m.d := by rw [encL, if_pos hc, lay_one]
    rw [em, e5, hc]
    have h5 : (nbN 4 1 ++ encM1 m.d).length = 4 + lenM m.d := by rw [List.length_append, nbN_len, hml]
    have h6 : (nbN 4 1 ++ encM1 m.d).drop 4 = encM1 m.d := by
      have := List.drop_left (l₁ := nbN 4 1) (l₂ := encM1 m.d)
      rwa [nbN_len] at this
    generalize nbN 4 1 ++ encM1 m.d = es at h5 h6 ⊢
    refine sx ?_
    refine s_knL (Kn.by (a := a12) (c := c12) (xs := es) (by exact rby)) fun l2 => ?_
    simp only [maxLen] at l2
    refine s_yS rfl rfl rfl (y_slF (k := 4) rfl rfl (by omega)) ?_
    refine s_rw (t := 60) (v' := .slice (Sx.sl a12 c12 4 1) (encM1 m.d).length (c12 - 4)) rfl (by rw [hml]; congr 1; omega) ?_
    have hsrc : RSl w0 (ob a12 c12 es :: ol 56 (some ⟨b54, 0, none⟩) 1 [m] :: .hb b11 56 m.cells :: ob a1 c1 bs :: H) (Sx.sl a12 c12 4 1) (c12 - 4) (encM1 m.d) := by
      have := (RBy.hd (w0 := w0) (H := ol 56 (some ⟨b54, 0, none⟩) 1 [m] :: .hb b11 56 m.cells :: ob a1 c1 bs :: H) (E := 5) (a := a12) (c := c12) (xs := es)).drop (k := 4) (by omega)
      rw [h6] at this
      exact this.sl'
    refine s_app (xs := bs) (ys := encM1 m.d) ?_ (hsrc := hsrc) (hby := by omega)
    intro a2 c2
    rw [← hstep]
    refine sx ?_
    exact s_again (i + 1, a2, c2) (by simp only; omega) (by simp only; omega)
  · obtain rfl : i = n.ms.length := by omega
    have e : n.md.take n.ms.length = n.md := List.take_of_length_le (by simp)
    have e6 : encK n.k.d ++ nbN 4 n.md.length ++ n.md.flatMap encM1 = encN n.k.d n.md := by rw [encN, layM, List.append_assoc]
    rw [e, e6]
    refine sx ?_
    exact s_ret2 rfl rfl rfl ⟨a1, c1, by rw [e0, t1'], by rw [e0]⟩
set_option maxHeartbeats 1000000 in
theorem rnencode_s {n : Nd} {size : Int} (hn : RNd w0 H n) (hm : n.k.ps.length * 8 ≤ 140737488355328) (hb : sumM n.md ≤ 549755813888) : FnS Tryz.prog w0 H 20 #[.int .i64 size, .agg n.cells.toArray] (NenR size n H) := by
  refine fns_enter Tryz.func20 rfl rfl rfl ?_
  have hk := hn.k
  have hms := hn.ms
  refine sx ?_
  refine s_boxA rfl fun b3 => ?_
  refine sx ?_
  refine s_callV rfl (rncheck_s (n := n) (size := size) (by exact rnd) hm (by omega)) ?_
  refine sx ?_
  refine s_ifn rfl (fun t1 => ?_) (fun t1 => ?_)
  · have e : encNR size n.k.d n.md = [] := if_neg t1
    refine sx ?_
    exact s_ret2 (H' := ob none 0 [] :: H) rfl rfl rfl ⟨none, 0, by rw [e]; rfl, by rw [e]⟩ (Ent.addNil (Ent.tl Ent.refl))
  have t1' : chkN size n.k.d n.md = 0 := t1
  obtain ⟨g1, g2, g3, g4⟩ := chkN_0 t1'
  have hsz := sizedB_bd (chkK_0 g1).1
  have e0 : encNR size n.k.d n.md = encN n.k.d n.md := if_pos t1'
  have er : encR size n.k.d = encK n.k.d := if_pos g1
  have hel := encK_len n.k.d
  have hml := layM_len n.md
  have hbm : bytesM n.md = 4 + sumM n.md := rfl
  refine sx ?_
  refine s_call rfl (rencode_s (k := n.k) (size := size) (by exact rkd) hm) ?_
  rintro _ _ ⟨a7, c7, rfl, rfl⟩
  rw [er]
  refine ⟨chk_seq, ?_⟩
  refine sx ?_
  have e7 : encN n.k.d n.md = [] ++ encK n.k.d ++ layM n.md := rfl
  rw [e7] at e0
  generalize encK n.k.d = eK at hel e0 ⊢
  refine sx ?_; refine s_drH (.hb b3 28 n.cells :: H) (.one true 1 (.one true 3 (.one true 4 (.one false 0 (.one false 2 (.one false 5 (.one false 6 (.one true 7 (.one true 8 .nil))))))))) mixed (by kernel_rfl) ?_; refine sx ?_
  refine s_bsl ([] : Bs) rfl rfl fun b22 => ?_
  refine sx ?_
  refine s_app (ys := eK) ?_ (hby := by simp only [List.length_nil]; omega)
  intro a24 c24
  refine sx ?_
  refine s_call rfl (rlay_s (ms := n.ms) (by exact rms) (chkN_canon t1') hb) ?_
  rintro _ _ ⟨a27, c27, rfl, rfl⟩
  refine ⟨chk_held (by exact ent), ?_⟩
  have el2 : layM (List.map Mg.d n.ms) = layM n.md := rfl
  rw [el2]
  generalize layM n.md = eM at hml e0 ⊢
  refine sx ?_
  refine s_app (xs := [] ++ eK) (ys := eM) ?_ (hby := by simp only [List.nil_append]; omega)
  intro a28 c28
  refine sx ?_
  exact s_ret2 rfl rfl rfl ⟨a28, c28, by rw [e0, t1'], by rw [e0]⟩
end Go.Sx
