/- Part of a proof: entries that are lent, with marks behind them; their owner writes over them. -/
import Derived.Test.YtimakbpghggdfaaGreatCSWOj
import Derived.Test.YtimakbpghggdfaaGreatCKB
namespace Go.Sx
open Go Go.Proofs
set_option maxRecDepth 10000
variable {w0 : World} {H : List Ck}
theorem lm_by {xs : Bs} {a : Option Addr} {c : Nat} : RBy w0 (ob a c (lm xs) :: H) a c xs := by
  have := (RBy.hd (w0 := w0) (E := 5) (a := a) (c := c) (xs := lm xs) (H := H)).take (k := xs.length) (by simp)
  rwa [lm, List.take_left] at this
/-- An entry's bytes with marks behind them. -/
@[reducible] def lE (e : KV) : List Ck := [ob e.ka e.kc (lm e.k), ob e.va e.vc (lm e.v)]
theorem lE_st {es : List KV} {e : KV} (h : e ∈ es) : REe w0 (stars lE es :: H) e := REe.ent (H' := lE e) ⟨lm_by, lm_by.tl⟩ (stars_mem h)
def fE (e : KV) : KV := ⟨e.ka, e.kc, e.k.map fx, e.va, e.vc, e.v.map fx⟩
theorem fE_cells (e : KV) : (fE e).cells = e.cells := by simp [fE, KV.cells]
theorem fE_flat (es : List KV) : flat (es.map fE) = flat es := by
  induction es with
  | nil => rfl
  | cons e es ih =>
    show (fE e).cells ++ flat (es.map fE) = e.cells ++ flat es
    rw [fE_cells, ih]
def bhB : Bs := [98, 101, 104, 105, 110, 100]
def bhE (b : Nat) : KV := ⟨some ⟨b, 0, none⟩, 6, bhB, none, 0, []⟩
/-- Entries that are lent. -/
@[reducible] def lEs (a : Option Addr) (c : Nat) (fs : List KV) (b : Nat) : List Ck := [ol 31 a c (fs ++ [bhE b]), stars lE fs, .ro b (flat bhB)]
structure LeI where
  a : Option Addr
  c : Nat
  fs : List KV
set_option maxHeartbeats 2000000 in
theorem lentE_s {a : Option Addr} {c : Nat} {es : List KV} (hx : RSl w0 H a c es) (hr : ∀ e ∈ es, REe w0 H e) (hl : es.length ≤ 549755813888) (hz : ∀ e ∈ es, e.k.length ≤ 140737488351232 ∧ e.v.length ≤ 140737488351232) :
    FnS Tryz.prog w0 H 58 #[.slice a es.length c] (fun v H' => ∃ a' c' fs b, v = .slice a' (fs : List KV).length c' ∧ fs.map KV.p = es.map KV.p ∧ H' = .star (lEs a' c' fs b) :: H) := by
  refine fns_enter Tryz.func58 rfl rfl rfl ?_
  refine sx ?_
  refine s_rw (t := 7) (v' := .int .i64 ((es.length + 1 : Nat) : Int)) rfl (ci (by omega)) ?_
  refine s_make0 (α := KV) rfl rfl (by omega) fun b3 => ?_
  refine sx ?_
  refine s_loop (fun q : LeI => [(0, .slice a es.length c), (3, .slice q.a q.fs.length q.c), (4, .int .i64 q.fs.length)]) (fun q => ol 31 q.a q.c q.fs :: stars lE q.fs :: H) (fun q => q.fs.length ≤ es.length ∧ q.fs.map KV.p = (es.map KV.p).take q.fs.length) (fun q => es.length - q.fs.length) ⟨some b3, es.length + 1, []⟩ ⟨Nat.zero_le _, rfl⟩ ?_ (he := Ent.head stars_nil)
  rintro ⟨oa, oc, fs⟩ ⟨h1, h2⟩
  simp only at h1 h2 ⊢
  refine sx ?_
  refine s_if rfl (fun t1 => ?_) (fun t1 => ?_)
  · have t1 : (fs.length : Int) < (es.length : Int) := t1
    obtain ⟨e, he⟩ := get_lt es fs.length (by omega)
    have hem := List.mem_of_getElem? he
    have hre := hr e hem
    have hek := hre.k
    have hev := hre.v
    obtain ⟨z1, z2⟩ := hz e hem
    refine sx ?_; refine s_drH (H) (.one true 0 (.one true 1 (.one true 2 (.one true 3 (.one true 4 (.one true 5 (.one true 7 (.one true 8 (.one true 9 (.one true 10 (.one true 11 (.one false 6 (.one false 12 (.one true 13 (.one false 14 (.one false 15 (.one true 16 .nil))))))))))))))))) mixed (by kernel_rfl) ?_; refine sx ?_
    refine s_call rfl (lent_s (xs := e.k) (by exact rby) z1) ?_
    rintro _ _ ⟨a1, c1, rfl, rfl⟩
    refine ⟨chk_held (by exact ent), ?_⟩
    refine sx ?_
    refine s_call rfl (lent_s (xs := e.v) (by exact rby) z2) ?_
    rintro _ _ ⟨a2, c2, rfl, rfl⟩
    refine ⟨chk_held (by exact ent), ?_⟩
    refine sx ?_
    refine s_bsl [(⟨a1, c1, e.k, a2, c2, e.v⟩ : KV)] rfl rfl fun b4 => ?_
    refine s_app ?_
    intro a5 c5
    refine sx ?_
    refine s_rwQ (t := 4) (v' := .int .i64 ((fs ++ [(⟨a1, c1, e.k, a2, c2, e.v⟩ : KV)]).length : Nat)) rfl (ci (by rw [List.length_append]; rfl)) ?_
    refine s_again ⟨a5, c5, fs ++ [⟨a1, c1, e.k, a2, c2, e.v⟩]⟩ ⟨by simp only [List.length_append, List.length_singleton]; omega, ?_⟩ (by simp only [List.length_append, List.length_singleton]; omega) (he := ?_)
    · simp only [List.map_append, List.length_append, List.length_singleton]
      rw [h2, snocT (get_map (f := KV.p) he)]
      rfl
    · refine Ent.cons (by exact rm) ?_
      refine Ent.trans (H' := lE ⟨a1, c1, e.k, a2, c2, e.v⟩ ++ stars lE fs :: H) ?_ stars_snoc
      exact Ent.cons (by exact rm) (Ent.cons (by exact rm) (by exact ent))
  · have hl2 : fs.length = es.length := by omega
    refine sx ?_
    refine s_bsl bhB rfl rfl fun c1 => ?_
    refine s_convb rfl (by exact at_) ?_
    refine sx ?_
    refine s_bsl [bhE c1] rfl rfl fun c2 => ?_
    refine s_app ?_
    intro a5 c5
    have hl3 : (fs ++ [bhE c1]).length = fs.length + 1 := by simp
    refine s_knL (Kn.sl (a := a5) (c := c5) (xs := fs ++ [bhE c1]) (by exact rsl)) fun m5 => ?_
    simp only [maxLen] at m5
    refine sx ?_
    refine s_ret1 rfl rfl ⟨a5, c5, fs, c1, by rw [hl2], ?_, rfl⟩ ?_
    · rw [h2, hl2, List.take_of_length_le (by rw [List.length_map]; exact Nat.le_refl _)]
    · refine Ent.star (L := lEs a5 c5 fs c1) ?_
      exact ent
theorem ol_fE {E : TypeId} {a : Option Addr} {c : Nat} {fs : List KV} {b : Nat} : (ol E a c (fs.map fE ++ [bhE b]) : Ck) = ol E a c (fs ++ [bhE b]) := by
  show Ck.own _ _ _ _ _ _ = Ck.own _ _ _ _ _ _
  have h1 : (fs.map fE ++ [bhE b]).length = (fs ++ [bhE b]).length := by simp
  have h2 : flat (fs.map fE ++ [bhE b]) = flat (fs ++ [bhE b]) := by
    have := fE_flat fs
    simp only [flat, List.flatMap_append] at this ⊢
    rw [this]
  rw [h1, h2]
def tkE (fs : List KV) (i : Nat) : List KV := (fs.take i).map fE ++ fs.drop i
theorem tkE_get {fs : List KV} {i : Nat} {e : KV} (h : fs[i]? = some e) : (tkE fs i)[i]? = some e := by
  have hi := (List.getElem?_eq_some_iff.1 h).1
  rw [tkE, dropG h, List.getElem?_append_right (by simp; omega)]
  simp [Nat.min_eq_left (Nat.le_of_lt hi)]
theorem tkE_set {fs : List KV} {i : Nat} {e : KV} (h : fs[i]? = some e) : (tkE fs i).set i (fE e) = tkE fs (i + 1) := by
  have hi := (List.getElem?_eq_some_iff.1 h).1
  have hl : ((fs.take i).map fE).length = i := by simp; omega
  rw [tkE, dropG h, List.set_append_right _ _ (by omega), hl, Nat.sub_self, tkE, snocT h, List.map_append, List.append_assoc]
  rfl
theorem pk_eq {fs es : List KV} {i : Nat} {f e : KV} (h : fs.map KV.p = es.map KV.p) (hf : fs[i]? = some f) (he : es[i]? = some e) : f.k = e.k ∧ f.v = e.v := by
  have h1 := congrArg (fun l => l[i]?) h
  simp only [List.getElem?_map, hf, he, Option.map_some, Option.some.injEq, KV.p, Prod.mk.injEq] at h1
  exact h1
set_option maxHeartbeats 2000000 in
theorem keptE_s {a a' : Option Addr} {c c' b : Nat} {es fs : List KV} (hx : RSl w0 H a c es) (hr : ∀ e ∈ es, REe w0 H e) (hp : fs.map KV.p = es.map KV.p) :
    FnS Tryz.prog w0 (.star (lEs a' c' fs b) :: H) 65 #[.slice a' fs.length c', .slice a es.length c] (fun v H' => v = .bool true ∧ H' = .star (lEs a' c' (fs.map fE) b) :: H) := by
  have hl : fs.length = es.length := by simpa using congrArg List.length hp
  refine fns_enter Tryz.func65 rfl rfl rfl ?_
  refine s_ent (ol 31 a' c' (fs ++ [bhE b]) :: stars lE fs :: .ro b (flat bhB) :: H) (Ent.open Ent.refl) ?_
  refine s_kn (Kn.sl (RSl.hd (w0 := w0) (E := 31) (a := a') (c := c') (xs := fs ++ [bhE b]) (H := stars lE fs :: .ro b (flat bhB) :: H))) fun l1 => ?_
  refine s_kn (Kn.sl hx.tl.tl.tl) fun l2 => ?_
  have hl3 : (fs ++ [bhE b]).length = fs.length + 1 := by simp
  simp only [maxLen] at l1 l2
  have hbe : (fs ++ [bhE b])[es.length]? = some (bhE b) := by rw [← hl, List.getElem?_append_right (Nat.le_refl _), Nat.sub_self]; rfl
  have hby : ∀ {H0 : List Ck}, RBy w0 (.ro b (flat bhB) :: H0) (some ⟨b, 0, none⟩) 6 bhB := RBy.ro (xs := bhB) rfl (by decide)
  refine sx ?_
  refine s_gT rfl (by simp [hl]) ?_
  refine sx ?_
  refine s_rw (t := 19) (v' := .int .i64 (((fs ++ [bhE b]).length : Nat) : Int)) rfl (ci (by omega)) ?_
  refine sx ?_
  refine s_yS rfl rfl rfl (y_st (xs := bhB) rfl hby.tl.tl) ?_
  refine sx ?_
  refine s_rwC (t := 6) (v' := .bool true) rfl (by rfl) ?_
  clear hbe hby
  refine s_loop (fun i : Nat => [(0, .slice a' fs.length c'), (1, .slice a es.length c), (5, .int .i64 es.length), (6, .bool true), (7, .int .i64 i)]) (fun i => ol 31 a' c' (fs ++ [bhE b]) :: stars lE (tkE fs i) :: .ro b (flat bhB) :: H) (fun i => i ≤ es.length) (fun i => es.length - i) 0 (Nat.zero_le _) ?_
  intro i hi
  refine sx ?_
  refine s_lif rfl (fun t1 => ?_) (fun t1 => ?_)
  · obtain ⟨e, he⟩ := get_lt es i (by omega)
    obtain ⟨f, hf⟩ := get_lt fs i (by omega)
    obtain ⟨ek, ev⟩ := pk_eq hp hf he
    have hre := hr e (List.mem_of_getElem? he)
    have hek := hre.k
    have hev := hre.v
    have hfb : (fs ++ [bhE b])[i]? = some f := by rw [List.getElem?_append_left (by omega)]; exact hf
    have hsf : RSl w0 (ol 31 a' c' (fs ++ [bhE b]) :: stars lE (tkE fs i) :: .ro b (flat bhB) :: H) a' c' fs := by
      have := (RSl.hd (w0 := w0) (E := 31) (a := a') (c := c') (xs := fs ++ [bhE b]) (H := stars lE (tkE fs i) :: .ro b (flat bhB) :: H)).take (k := fs.length) (by omega)
      rwa [List.take_left'] at this
      rfl
    refine sx ?_; refine s_dr (.one true 0 (.one true 1 (.one true 2 (.one true 3 (.one true 4 (.one true 5 (.one true 6 (.one true 7 (.one true 8 (.one true 9 (.one true 10 (.one true 11 (.one true 12 (.one true 13 (.one true 14 (.one true 15 (.one true 16 (.one true 17 (.one true 18 (.one true 19 (.one true 20 (.one true 21 (.one true 22 (.one true 23 (.one true 24 (.one true 25 (.one true 26 (.one true 27 (.one true 28 .nil))))))))))))))))))))))))))))) mixed (by kernel_rfl) ?_; refine sx ?_
    refine s_gT rfl (by simp [ek]) ?_
    refine sx ?_
    refine s_rwC (t := 64) (v' := .bool true) rfl (congrArg Value.bool (by simp [ev])) ?_
    refine sx ?_
    have hget : ∀ {R : List Ck}, Ent (stars lE (tkE fs i) :: R) (ob f.ka f.kc (lm e.k) :: ob f.va f.vc (lm e.v) :: stars lE ((tkE fs i).eraseIdx i) :: R) := fun {R} => by
      have h := stars_get (f := lE) (H := R) (tkE_get hf)
      rw [← ek, ← ev]
      exact h
    have hput : ∀ {R : List Ck}, Ent (ob f.ka f.kc (lm (e.k.map fx)) :: ob f.va f.vc (lm (e.v.map fx)) :: stars lE ((tkE fs i).eraseIdx i) :: R) (stars lE (tkE fs (i + 1)) :: R) := fun {R} => by
      have h := stars_put (f := lE) (s := fE f) (H := R) (List.getElem?_eq_some_iff.1 (tkE_get hf)).1
      rw [tkE_set hf] at h
      rw [← ek, ← ev]
      exact h
    have hsf : RSl w0 (ol 31 a' c' (fs ++ [bhE b]) :: .ro b (flat bhB) :: H) a' c' fs := by
      have := (RSl.hd (w0 := w0) (E := 31) (a := a') (c := c') (xs := fs ++ [bhE b]) (H := .ro b (flat bhB) :: H)).take (k := fs.length) (by omega)
      rwa [List.take_left'] at this
      rfl
    generalize (tkE fs i).eraseIdx i = er at hget hput
    refine s_ent (ob f.ka f.kc (lm e.k) :: ob f.va f.vc (lm e.v) :: stars lE er :: ol 31 a' c' (fs ++ [bhE b]) :: .ro b (flat bhB) :: H) ((Ent.perm (.swap _ _ _)).trans (hget (R := ol 31 a' c' (fs ++ [bhE b]) :: .ro b (flat bhB) :: H))) ?_
    have hx3 := hx.tl (d := .ro b (flat bhB)) |>.tl (d := ol 31 a' c' (fs ++ [bhE b]))
    refine sx ?_; refine s_drR (ob f.ka f.kc (lm e.k)) (by exact rm) (.one true 0 (.one true 1 (.one true 2 (.one true 3 (.one true 4 (.one true 5 (.one true 6 (.one true 7 (.one true 8 (.one true 9 (.one false 10 (.one true 11 .nil)))))))))))) mixed (by kernel_rfl) ?_; refine sx ?_
    refine s_rw (t := 69) (v' := .slice f.ka e.k.length f.kc) rfl (by rw [ek]) ?_
    refine s_call rfl (kept_s (xs := e.k) (a' := f.ka) (c' := f.kc) (H := ob f.va f.vc (lm e.v) :: stars lE er :: ol 31 a' c' (fs ++ [bhE b]) :: .ro b (flat bhB) :: H) hek.tl.tl.tl.tl) ?_
    rintro _ _ ⟨rfl, rfl⟩
    refine ⟨chk_held (by exact ent), ?_⟩
    refine sx ?_
    refine s_ent (ob f.va f.vc (lm e.v) :: ob f.ka f.kc (lm (e.k.map fx)) :: stars lE er :: ol 31 a' c' (fs ++ [bhE b]) :: .ro b (flat bhB) :: H) (by exact ent) ?_
    refine sx ?_; refine s_drR (ob f.va f.vc (lm e.v)) (by exact rm) (.one true 0 (.one true 1 (.one true 2 (.one true 3 (.one true 4 (.one true 5 (.one true 6 (.one true 7 (.one true 8 (.one true 9 (.one false 10 (.one true 11 .nil)))))))))))) mixed (by kernel_rfl) ?_; refine sx ?_
    refine s_rw (t := 80) (v' := .slice f.va e.v.length f.vc) rfl (by rw [ev]) ?_
    refine s_call rfl (kept_s (xs := e.v) (a' := f.va) (c' := f.vc) (H := ob f.ka f.kc (lm (e.k.map fx)) :: stars lE er :: ol 31 a' c' (fs ++ [bhE b]) :: .ro b (flat bhB) :: H) hev.tl.tl.tl.tl) ?_
    rintro _ _ ⟨rfl, rfl⟩
    refine ⟨chk_held (by exact ent), ?_⟩
    refine sx ?_
    refine s_again (i + 1) (by omega) (by omega) (he := ?_)
    refine Ent.trans (H' := ob f.ka f.kc (lm (e.k.map fx)) :: ob f.va f.vc (lm (e.v.map fx)) :: stars lE er :: ol 31 a' c' (fs ++ [bhE b]) :: .ro b (flat bhB) :: H) (by exact ent) ?_
    exact (hput (R := ol 31 a' c' (fs ++ [bhE b]) :: .ro b (flat bhB) :: H)).trans (Ent.perm (.swap _ _ _))
  · obtain rfl : i = es.length := by omega
    refine sx ?_
    refine s_ret1 rfl rfl ⟨rfl, rfl⟩ ?_
    have he : tkE fs es.length = fs.map fE := by
      rw [tkE, ← hl, List.take_length, List.drop_length, List.append_nil]
    rw [he]
    refine Ent.star (L := lEs a' c' (fs.map fE) b) ?_
    show Ent _ (ol 31 a' c' (fs.map fE ++ [bhE b]) :: stars lE (fs.map fE) :: .ro b (flat bhB) :: H)
    rw [ol_fE]
    exact ent
end Go.Sx

