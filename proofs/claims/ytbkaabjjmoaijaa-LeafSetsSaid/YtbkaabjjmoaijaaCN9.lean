/- Part of a proof: the owner writes over what was lent. -/
import Derived.Test.YtbkaabjjmoaijaaCN8
import Derived.Test.YtbkaabjjmoaijaaCM4
import Derived.Test.YtbkaabjjmoaijaaCM6
namespace Go.Sx
open Go Go.Proofs
set_option maxRecDepth 10000
variable {w0 : World} {H : List Ck}

/-- The same blocks, of the same lengths, with marks. -/
def Shp (fs hs : List KV) : Prop := hs.length = fs.length ∧ ∀ (j : Nat) (e : KV), fs[j]? = some e → ∃ h : KV, hs[j]? = some h ∧ h.ka = e.ka ∧ h.kc = e.kc ∧ h.va = e.va ∧ h.vc = e.vc ∧ h.k.length = e.k.length + 2 ∧ h.v.length = e.v.length + 2
theorem erase_set {β : Type} : ∀ {F : List β} {i : Nat} {s : β}, (F.set i s).eraseIdx i = F.eraseIdx i
  | [], i, s => by simp
  | x :: r, 0, s => rfl
  | x :: r, i + 1, s => by simp only [List.set_cons_succ, List.eraseIdx_cons_succ, erase_set]
theorem set_perm {β : Type} {F : List β} {i : Nat} {s : β} (h : i < F.length) : (F.set i s).Perm (s :: F.eraseIdx i) := by
  have := perm_erase (F := F.set i s) (i := i) (s := s) (by rw [List.getElem?_set_self h])
  rwa [erase_set] at this
theorem oKV_get {U : TypeId} {hs : List KV} {i : Nat} {h : KV} (hi : hs[i]? = some h) : Ent (.star (oKV U hs) :: H) (ol U h.ka h.kc h.k :: ol U h.va h.vc h.v :: .star (oKV U (hs.eraseIdx i)) :: H) := by
  refine Ent.trans (Ent.both (B := oKV U (h :: hs.eraseIdx i)) (List.Perm.flatMap_right _ (perm_erase hi))) ?_
  exact Ent.open (Ent.head (Ent.head (Ent.star Ent.refl)))
theorem oKV_put {U : TypeId} {hs : List KV} {i : Nat} {h : KV} (hi : i < hs.length) : Ent (ol U h.ka h.kc h.k :: ol U h.va h.vc h.v :: .star (oKV U (hs.eraseIdx i)) :: H) (.star (oKV U (hs.set i h)) :: H) := by
  refine Ent.trans (H' := .star (oKV U (h :: hs.eraseIdx i)) :: H) ?_ (Ent.both (List.Perm.flatMap_right _ (set_perm hi).symm))
  exact Ent.star (Ent.head (Ent.head (Ent.open Ent.refl)))
theorem Shp.set {fs hs : List KV} {i : Nat} {e h : KV} (hsh : Shp fs hs) (he : fs[i]? = some e) (h1 : h.ka = e.ka) (h2 : h.kc = e.kc) (h3 : h.va = e.va) (h4 : h.vc = e.vc) (h5 : h.k.length = e.k.length + 2) (h6 : h.v.length = e.v.length + 2) : Shp fs (hs.set i h) := by
  refine ⟨by rw [List.length_set]; exact hsh.1, fun j f hj => ?_⟩
  have hl := hsh.1
  by_cases hij : j = i
  · subst hij
    rw [he] at hj
    cases hj
    exact ⟨h, List.getElem?_set_self (by have := (List.getElem?_eq_some_iff.1 he).1; omega), h1, h2, h3, h4, h5, h6⟩
  · rw [List.getElem?_set_ne (by omega)]
    exact hsh.2 j f hj
/-- The entries as they are now. -/
def cutE (e h : KV) : KV := { h with k := h.k.take e.k.length, v := h.v.take e.v.length }
def gsE (fs hs : List KV) : List KV := List.zipWith cutE fs hs
theorem Shp.gs_len {fs hs : List KV} (h : Shp fs hs) : (gsE fs hs).length = fs.length := by
  have := h.1
  simp only [gsE, List.length_zipWith]; omega
theorem Shp.gs_get {fs hs : List KV} (h : Shp fs hs) {j : Nat} {g : KV} (hg : (gsE fs hs)[j]? = some g) : ∃ e y, fs[j]? = some e ∧ hs[j]? = some y ∧ g = cutE e y ∧ y.ka = e.ka ∧ y.kc = e.kc ∧ y.va = e.va ∧ y.vc = e.vc ∧ y.k.length = e.k.length + 2 ∧ y.v.length = e.v.length + 2 := by
  have hj : j < fs.length := by have := get_lt' hg; rwa [h.gs_len] at this
  obtain ⟨e, he⟩ := get_lt fs j hj
  obtain ⟨y, hy, h1⟩ := h.2 j e he
  refine ⟨e, y, he, hy, ?_, h1⟩
  simp only [gsE, List.getElem?_zipWith, he, hy] at hg
  exact (Option.some.inj hg).symm
theorem gs_map {β : Type} {fs hs : List KV} (h : Shp fs hs) (f : KV → β) (hf : ∀ e y : KV, y.ka = e.ka → y.kc = e.kc → y.va = e.va → y.vc = e.vc → y.k.length = e.k.length + 2 → y.v.length = e.v.length + 2 → f (cutE e y) = f e) : (gsE fs hs).map f = fs.map f := by
  apply List.ext_getElem?
  intro j
  rw [List.getElem?_map, List.getElem?_map]
  cases hg : (gsE fs hs)[j]? with
  | none =>
    have : fs[j]? = none := by
      rw [List.getElem?_eq_none_iff] at hg ⊢
      rwa [h.gs_len] at hg
    rw [this]
  | some g =>
    obtain ⟨e, y, h1, h2, rfl, h3, h4, h5, h6, h7, h8⟩ := h.gs_get hg
    rw [h1]
    simp only [Option.map_some]
    rw [hf e y h3 h4 h5 h6 h7 h8]
theorem wt_map : ∀ {ps qs : Ps}, ps.map (fun p => (p.1.length, p.2.length)) = qs.map (fun p => (p.1.length, p.2.length)) → wt ps = wt qs
  | [], [], _ => rfl
  | [], _ :: _, h => by simp at h
  | _ :: _, [], h => by simp at h
  | p :: ps, q :: qs, h => by
    simp only [List.map_cons, List.cons.injEq, Prod.mk.injEq] at h
    simp only [wt, wt_map h.2, h.1.1, h.1.2]
theorem Shp.gs_wt {fs hs : List KV} (h : Shp fs hs) : wt ((gsE fs hs).map KV.p) = wt (fs.map KV.p) := by
  apply wt_map
  rw [List.map_map, List.map_map]
  exact gs_map h _ fun e y _ _ _ _ h5 h6 => by simp [KV.p, cutE, h5, h6]
theorem Shp.gs_flat {fs hs : List KV} (h : Shp fs hs) : flat (gsE fs hs) = flat fs := by
  have := gs_map h (Cel.f (α := KV)) fun e y h1 h2 h3 h4 h5 h6 => by
    have e1 : min e.k.length (e.k.length + 2) = e.k.length := by omega
    have e2 : min e.v.length (e.v.length + 2) = e.v.length := by omega
    simp [Cel.f, KV.cells, cutE, h1, h2, h3, h4, h5, h6, e1, e2]
  simp only [flat, List.flatMap_def, this]
theorem RSl.same {a : Option Addr} {c : Nat} {xs ys : List KV} (h : RSl w0 H a c xs) (hl : ys.length = xs.length) (hf : flat ys = flat xs) : RSl w0 H a c ys := fun w hs => by
  have h' := h w hs
  exact ⟨by rw [hl]; exact h'.le, h'.cap, h'.nil, fun ad e => by rw [hf]; exact h'.cells ad e⟩
theorem Shp.ren {fs hs r : List KV} {a : Option Addr} {c : Nat} (h : Shp fs hs) {H2 : List Ck} : REn w0 (.star [ol 47 a c (fs ++ r), .star (oKV 5 hs)] :: H2) a c (gsE fs hs) := by
  refine REn.mk ?_ fun g hg => ?_
  · have := (RSl.ent (RSl.hd (w0 := w0) (E := 47) (a := a) (c := c) (xs := fs ++ r)) (Ent.mem' (H := H2) (by simp : _ ∈ [ol 47 a c (fs ++ r), .star (oKV 5 hs)]))).take (k := fs.length) (by simp)
    rw [List.take_left' rfl] at this
    exact this.same h.gs_len h.gs_flat
  · obtain ⟨j, hj⟩ := List.getElem?_of_mem hg
    obtain ⟨e, y, h1, h2, rfl, h3, h4, h5, h6, h7, h8⟩ := h.gs_get hj
    have hy := List.mem_of_getElem? h2
    have he : ∀ p, p ∈ oKV 5 hs → Ent (.star [ol 47 a c (fs ++ r), .star (oKV 5 hs)] :: H2) [p] := fun p hp => (Ent.mem' (c := .star (oKV 5 hs)) (by simp)).trans (Ent.mem' hp)
    exact ⟨(RBy.ent RBy.hd (he _ (oKV_key hy))).take (by omega), (RBy.ent RBy.hd (he _ (oKV_val hy))).take (by omega)⟩
/-- The last key's last byte is one more. -/
def upK (k k' : Bs) : Prop := 0 < k.length ∧ (k.getD (k.length - 1) 0).toNat < 255 ∧ k'.take k.length = k.set (k.length - 1) (UInt8.ofInt (((k.getD (k.length - 1) 0).toNat : Int) + 1))
/-- The keys of the first i. -/
def KInv (fs hs : List KV) (i : Nat) : Prop := ∀ (j : Nat) (e h : KV), fs[j]? = some e → hs[j]? = some h → h.k = e.k ++ mk2 ∨ (j < i ∧ j + 1 = fs.length ∧ upK e.k h.k)
theorem KInv.init {fs : List KV} : KInv fs (fs.map mkd) 0 := fun j e h he hh => by
  rw [List.getElem?_map, he] at hh
  cases hh
  exact .inl rfl
theorem KInv.set {fs hs : List KV} {i : Nat} {e z : KV} (h : KInv fs hs i) (he : fs[i]? = some e) (hz : z.k = e.k ++ mk2 ∨ (i + 1 = fs.length ∧ upK e.k z.k)) : KInv fs (hs.set i z) (i + 1) := fun j f y hj hy => by
  by_cases hij : i = j
  · subst hij
    rw [he] at hj
    cases hj
    have hl : i < hs.length := by have := get_lt' hy; rwa [List.length_set] at this
    rw [List.getElem?_set_self hl] at hy
    cases hy
    exact hz.imp id fun h => ⟨Nat.lt_succ_self _, h⟩
  · rw [List.getElem?_set_ne hij] at hy
    exact (h j f y hj hy).imp id fun h => ⟨by omega, h.2⟩
theorem u8_up {x : UInt8} (h : x.toNat < 255) : x < UInt8.ofInt ((x.toNat : Int) + 1) := by
  have : (UInt8.ofInt ((x.toNat : Int) + 1)).toNat = x.toNat + 1 := by simp [UInt8.ofInt]; omega
  rw [UInt8.lt_iff_toNat_lt, this]
  omega
theorem cmp_set : ∀ (k : Bs) (j : Nat) (y : UInt8), j < k.length → k.getD j 0 < y → cmp k (k.set j y) < 0
  | [], j, y, h, _ => by simp at h
  | x :: r, 0, y, _, h => by
    simp only [List.getD_cons_zero] at h
    have h1 : x ≠ y := fun e => by subst e; exact absurd h (UInt8.lt_irrefl x)
    have h2 : ¬ y < x := UInt8.lt_asymm h
    simp [cmp, h1, h2]
  | x :: r, j + 1, y, h, h' => by
    simp only [List.set_cons_succ, cmp]
    simpa using cmp_set r j y (by simpa using h) (by simpa using h')
theorem KInv.rise {fs hs : List KV} {i : Nat} (h : KInv fs hs i) (hs' : Shp fs hs) (hr : Rise (fs.map KV.p)) : Rise ((gsE fs hs).map KV.p) := by
  have key : ∀ (j : Nat) (e y : KV), fs[j]? = some e → hs[j]? = some y → (cutE e y).k = e.k ∨ (j + 1 = fs.length ∧ cmp e.k (cutE e y).k < 0) := by
    intro j e y h1 h2
    rcases h j e y h1 h2 with h3 | ⟨_, h3, h4, h5, h6⟩
    · left; simp [cutE, h3]
    · right
      refine ⟨h3, ?_⟩
      simp only [cutE, h6]
      exact cmp_set _ _ _ (by omega) (u8_up h5)
  unfold Rise
  rw [List.pairwise_iff_getElem]
  intro j k hj hk hjk
  have gj : ((gsE fs hs).map KV.p)[j]? = some _ := List.getElem?_eq_getElem hj
  have gk : ((gsE fs hs).map KV.p)[k]? = some _ := List.getElem?_eq_getElem hk
  rw [List.getElem?_map] at gj gk
  obtain ⟨g1, a1, b1⟩ := Option.map_eq_some_iff.1 gj
  obtain ⟨g2, a2, b2⟩ := Option.map_eq_some_iff.1 gk
  obtain ⟨e1, y1, p1, q1, rfl, _⟩ := hs'.gs_get a1
  obtain ⟨e2, y2, p2, q2, rfl, _⟩ := hs'.gs_get a2
  rw [← b1, ← b2]
  have hlt := rise_get hr (map_get p1) (map_get p2) hjk
  have hk' := get_lt' p2
  simp only [KV.p]
  rcases key j e1 y1 p1 q1 with h1 | h1
  · rw [h1]
    rcases key k e2 y2 p2 q2 with h2 | h2
    · rw [h2]; exact hlt
    · exact cmp_lt_of hlt (Int.le_of_lt h2.2)
  · exfalso; omega
theorem turnR_s {L : Ln} (hS : Small (L.fs.map KV.p)) : FnS Try.prog w0 (.star L.cs :: H) 18 #[L.v]
    (fun v H' => ∃ a' c' now gs cs', v = .slice a' (now : List KV).length c' ∧ now.map KV.p = (gs : List KV).map KV.p ∧ gs.length = L.fs.length ∧ Small (gs.map KV.p) ∧ ((Rise (L.fs.map KV.p) → Rise (gs.map KV.p)) ∧ wt (gs.map KV.p) = wt (L.fs.map KV.p)) ∧ (∀ H2, REn w0 (.star cs' :: H2) L.la L.lc gs) ∧ H' = oe a' c' now :: .star cs' :: H) := by
  refine fns_enter Try.func18 rfl rfl rfl ?_
  refine sx ?_
  refine s_boxA rfl fun b1 => ?_
  refine sx ?_
  have hwl := wt_len (L.fs.map KV.p)
  simp only [List.length_map, Small] at hwl hS
  have hkl : (L.fs.map kM).length = L.fs.length := List.length_map ..
  have hvl : (L.fs.map vM).length = L.fs.length := List.length_map ..
  refine s_loop (fun (i : Nat × List KV) => [(1, .pointer (some ⟨b1, 0, none⟩)), (3, .int .i64 L.fs.length), (4, .int .i64 i.1)]) (fun i => .hb b1 33 [.slice L.la (L.fs.length + 2) L.lc, .slice L.ka L.fs.length L.kc, .slice L.va L.fs.length L.vc] :: ol 47 L.la L.lc L.ls :: ol 39 L.ka L.kc (L.fs.map kM) :: ol 39 L.va L.vc (L.fs.map vM) :: .star (oKV 5 i.2) :: H) (fun i => i.1 ≤ L.fs.length ∧ Shp L.fs i.2 ∧ KInv L.fs i.2 i.1) (fun i => L.fs.length - i.1) (0, L.fs.map mkd) ⟨Nat.zero_le _, ⟨by simp, fun j e h => ⟨mkd e, by simp [h], rfl, rfl, rfl, rfl, by simp [mkd, mk2], by simp [mkd, mk2]⟩⟩, KInv.init⟩ ?_ (he := by
    refine Ent.cons (by exact rm) ?_
    refine Ent.open ?_
    exact ent)
  rintro ⟨i, hs⟩ ⟨hi, hsh, hki⟩
  simp only at hi hsh hki ⊢
  refine sx ?_
  refine s_if rfl (fun t1 => ?_) (fun t1 => ?_)
  · obtain ⟨⟨ka, kc, ek, va, vc, ev⟩, hie⟩ := get_lt L.fs i (by omega)
    have hew := p_wt hie
    have hik : (L.fs.map kM)[i]? = some ⟨ka, kc, ek ++ mk2⟩ := by rw [List.getElem?_map, hie]; rfl
    have hiv : (L.fs.map vM)[i]? = some ⟨va, vc, ev ++ mk2⟩ := by rw [List.getElem?_map, hie]; rfl
    obtain ⟨⟨ka', kc', hk, va', vc', hv⟩, hih, h1, h2, h3, h4, h5, h6⟩ := hsh.2 i _ hie
    simp only at h1 h2 h3 h4 h5 h6 hew
    subst h1 h2 h3 h4
    have hke : hk = ek ++ mk2 := (hki i _ _ hie hih).resolve_right fun h => absurd h.1 (Nat.lt_irrefl _)
    have hvl2 : (ev ++ mk2).length = ev.length + 2 := by simp [mk2]
    have hkl2 : (ek ++ mk2).length = ek.length + 2 := by simp [mk2]
    refine s_ent (ob va' vc' hv :: .hb b1 33 [.slice L.la (L.fs.length + 2) L.lc, .slice L.ka L.fs.length L.kc, .slice L.va L.fs.length L.vc] :: ol 47 L.la L.lc L.ls :: ol 39 L.ka L.kc (L.fs.map kM) :: ol 39 L.va L.vc (L.fs.map vM) :: ob ka' kc' hk :: .star (oKV 5 (hs.eraseIdx i)) :: H) (by
      refine Ent.trans (H' := .star (oKV 5 hs) :: .hb b1 33 [.slice L.la (L.fs.length + 2) L.lc, .slice L.ka L.fs.length L.kc, .slice L.va L.fs.length L.vc] :: ol 47 L.la L.lc L.ls :: ol 39 L.ka L.kc (L.fs.map kM) :: ol 39 L.va L.vc (L.fs.map vM) :: H) (by exact ent) ?_
      exact (oKV_get hih).trans (by exact ent)) ?_
    refine sx ?_
    refine s_loop (fun (j : Nat × Bs) => [(1, .pointer (some ⟨b1, 0, none⟩)), (3, .int .i64 L.fs.length), (4, .int .i64 i), (5, .int .i64 j.1)]) (fun j => ob va' vc' j.2 :: .hb b1 33 [.slice L.la (L.fs.length + 2) L.lc, .slice L.ka L.fs.length L.kc, .slice L.va L.fs.length L.vc] :: ol 47 L.la L.lc L.ls :: ol 39 L.ka L.kc (L.fs.map kM) :: ol 39 L.va L.vc (L.fs.map vM) :: ob ka' kc' hk :: .star (oKV 5 (hs.eraseIdx i)) :: H) (fun j => j.1 ≤ ev.length ∧ j.2.length = ev.length + 2) (fun j => ev.length - j.1) (0, hv) ⟨Nat.zero_le _, h6⟩ ?_
    rintro ⟨j, ys⟩ ⟨hj, hyl⟩
    simp only at hj hyl ⊢
    have rv : RSl w0 (ob va' vc' ys :: .hb b1 33 [.slice L.la (L.fs.length + 2) L.lc, .slice L.ka L.fs.length L.kc, .slice L.va L.fs.length L.vc] :: ol 47 L.la L.lc L.ls :: ol 39 L.ka L.kc (L.fs.map kM) :: ol 39 L.va L.vc (L.fs.map vM) :: ob ka' kc' hk :: .star (oKV 5 (hs.eraseIdx i)) :: H) L.va L.vc (L.fs.map vM) := by exact rsl
    refine sx ?_
    refine s_rw (t := 20) rfl (ci (by show ((ev ++ mk2).length : Int) = _; rw [hvl2] : _ = ((ev.length + 2 : Nat) : Int))) ?_
    refine sx ?_
    refine s_if rfl (fun t2 => ?_) (fun t2 => ?_)
    · have t2 : (j : Int) < ((ev.length + 2 : Nat) : Int) - 2 := t2
      refine s_kn (φ := ∃ ad, va' = some ad) (fun w hw => own_gA (Sat.ownOf (c' := ob va' vc' ys) .hd hw) (by omega)) ?_
      rintro ⟨ad, rfl⟩
      have rv' : RSl w0 (.hb b1 33 [.slice L.la (L.fs.length + 2) L.lc, .slice L.ka L.fs.length L.kc, .slice L.va L.fs.length L.vc] :: ol 47 L.la L.lc L.ls :: ol 39 L.ka L.kc (L.fs.map kM) :: ol 39 L.va L.vc (L.fs.map vM) :: ob ka' kc' hk :: .star (oKV 5 (hs.eraseIdx i)) :: H) L.va L.vc (L.fs.map vM) := by exact rsl
      refine sx ?_; refine s_drH (.hb b1 33 [.slice L.la (L.fs.length + 2) L.lc, .slice L.ka L.fs.length L.kc, .slice L.va L.fs.length L.vc] :: ol 47 L.la L.lc L.ls :: ol 39 L.ka L.kc (L.fs.map kM) :: ol 39 L.va L.vc (L.fs.map vM) :: ob ka' kc' hk :: .star (oKV 5 (hs.eraseIdx i)) :: H) (.one true 0 (.one true 1 (.one true 2 (.one true 3 (.one true 4 (.one true 5 (.one true 6 (.one true 7 (.one true 8 (.one true 9 (.one true 10 (.one true 11 (.one true 12 (.one false 13 (.one true 14 (.one true 15 (.one false 16 .nil))))))))))))))))) mixed (by kernel_rfl) ?_; refine sx ?_
      refine s_rw (t := 35) rfl (rfl : _ = Value.slice (some ad) (ev ++ mk2).length vc') ?_
      refine sx ?_
      refine s_yA rfl rfl (by exact yy) ?_ (chk_held (by exact ent))
      refine s_yH rfl rfl rfl (y_xorb (b := 85) rfl rfl) ?_
      refine s_rw (t := 29) rfl (rfl : _ = Value.slice (some ad) (ev ++ mk2).length vc') ?_
      refine sx ?_
      refine s_set1 (i := j) (y := ys.getD j 0 ^^^ 85) rfl rfl (by exact at_) rfl (by omega) ?_
      refine sx ?_
      exact s_again (j + 1, ys.set j (ys.getD j 0 ^^^ 85)) ⟨by simp only; omega, by simp only [List.length_set]; exact hyl⟩ (by simp only; omega)
    · have rk : RSl w0 (ob va' vc' ys :: .hb b1 33 [.slice L.la (L.fs.length + 2) L.lc, .slice L.ka L.fs.length L.kc, .slice L.va L.fs.length L.vc] :: ol 47 L.la L.lc L.ls :: ol 39 L.ka L.kc (L.fs.map kM) :: ol 39 L.va L.vc (L.fs.map vM) :: ob ka' kc' hk :: .star (oKV 5 (hs.eraseIdx i)) :: H) L.ka L.kc (L.fs.map kM) := by exact rsl
      have rkh : RBy w0 (ob va' vc' ys :: .hb b1 33 [.slice L.la (L.fs.length + 2) L.lc, .slice L.ka L.fs.length L.kc, .slice L.va L.fs.length L.vc] :: ol 47 L.la L.lc L.ls :: ol 39 L.ka L.kc (L.fs.map kM) :: ol 39 L.va L.vc (L.fs.map vM) :: ob ka' kc' hk :: .star (oKV 5 (hs.eraseIdx i)) :: H) ka' kc' hk := by exact rby
      refine sx ?_; refine s_dr (.one true 0 (.one true 1 (.one true 2 (.one true 3 (.one true 4 (.one true 5 (.one true 6 (.one true 7 (.one true 8 (.one true 9 (.one true 10 (.one true 11 (.one true 12 (.one true 13 (.one true 14 (.one true 15 (.one true 16 (.one true 17 (.one true 18 (.one true 19 (.one true 20 (.one true 21 (.one true 22 (.one true 23 (.one true 24 (.one true 25 (.one true 26 (.one true 27 (.one true 28 (.one true 29 .nil)))))))))))))))))))))))))))))) mixed (by kernel_rfl) ?_; refine sx ?_
      have hil : i < hs.length := (List.getElem?_eq_some_iff.1 hih).1
      have hfin : ∀ zs : Bs, Ent (ob va' vc' ys :: .hb b1 33 [.slice L.la (L.fs.length + 2) L.lc, .slice L.ka L.fs.length L.kc, .slice L.va L.fs.length L.vc] :: ol 47 L.la L.lc L.ls :: ol 39 L.ka L.kc (L.fs.map kM) :: ol 39 L.va L.vc (L.fs.map vM) :: ob ka' kc' zs :: .star (oKV 5 (hs.eraseIdx i)) :: H) (.hb b1 33 [.slice L.la (L.fs.length + 2) L.lc, .slice L.ka L.fs.length L.kc, .slice L.va L.fs.length L.vc] :: ol 47 L.la L.lc L.ls :: ol 39 L.ka L.kc (L.fs.map kM) :: ol 39 L.va L.vc (L.fs.map vM) :: .star (oKV 5 (hs.set i ⟨ka', kc', zs, va', vc', ys⟩)) :: H) := fun zs => by
        refine Ent.trans (H' := ob ka' kc' zs :: ob va' vc' ys :: .star (oKV 5 (hs.eraseIdx i)) :: .hb b1 33 [.slice L.la (L.fs.length + 2) L.lc, .slice L.ka L.fs.length L.kc, .slice L.va L.fs.length L.vc] :: ol 47 L.la L.lc L.ls :: ol 39 L.ka L.kc (L.fs.map kM) :: ol 39 L.va L.vc (L.fs.map vM) :: H) (by exact ent) ?_
        exact (oKV_put (h := ⟨ka', kc', zs, va', vc', ys⟩) hil).trans (by exact ent)
      have hend : ∀ zs : Bs, zs.length = ek.length + 2 → Shp L.fs (hs.set i ⟨ka', kc', zs, va', vc', ys⟩) := fun zs hz => hsh.set hie rfl rfl rfl rfl hz hyl
      have hsv : (⟨ka', kc', ek ++ mk2⟩ : SB).val = .slice ka' hk.length kc' := by simp only [SB.val, hkl2, h5]
      have hsl : Value.int .i64 ((⟨ka', kc', ek ++ mk2⟩ : SB).xs.length : Int) = .int .i64 (hk.length : Int) := by simp only [hkl2, h5]
      refine s_lif rfl (fun g1 => ?_) (fun g1 => ?_)
      · refine sx ?_
        refine s_lif rfl (fun g2 => ?_) (fun g2 => ?_)
        · have g2 : (2 : Int) < ((ek ++ mk2).length : Int) := g2
          have g2 : 2 < hk.length := by omega
          refine sx ?_
          refine s_rw (t := 59) rfl hsv ?_
          refine s_rw (t := 65) rfl (hsl : _ = Value.int .i64 (hk.length : Int)) ?_
          refine sx ?_
          refine s_rw (t := 66) rfl (ci (by omega : _ = ((hk.length - 3 : Nat) : Int))) ?_
          refine sx ?_
          refine s_if rfl (fun g3 => ?_) (fun g3 => ?_)
          · refine s_kn (φ := ∃ ad, ka' = some ad) (fun w hw => own_gA (Sat.ownOf (by exact at_ : At (ob ka' kc' hk) (ob ka' kc' hk) _ _) hw) (by omega)) ?_
            rintro ⟨ad, rfl⟩
            have rk' : RSl w0 (.hb b1 33 [.slice L.la (L.fs.length + 2) L.lc, .slice L.ka L.fs.length L.kc, .slice L.va L.fs.length L.vc] :: ob va' vc' ys :: ol 47 L.la L.lc L.ls :: ol 39 L.ka L.kc (L.fs.map kM) :: ol 39 L.va L.vc (L.fs.map vM) :: .star (oKV 5 (hs.eraseIdx i)) :: H) L.ka L.kc (L.fs.map kM) := by exact rsl
            refine sx ?_; refine s_drH (.hb b1 33 [.slice L.la (L.fs.length + 2) L.lc, .slice L.ka L.fs.length L.kc, .slice L.va L.fs.length L.vc] :: ob va' vc' ys :: ol 47 L.la L.lc L.ls :: ol 39 L.ka L.kc (L.fs.map kM) :: ol 39 L.va L.vc (L.fs.map vM) :: .star (oKV 5 (hs.eraseIdx i)) :: H) (.one true 0 (.one true 1 (.one true 2 (.one true 3 (.one true 4 (.one true 5 (.one true 6 (.one true 7 (.one true 8 (.one true 9 (.one true 10 (.one true 11 (.one true 12 (.one false 13 (.one true 14 (.one true 15 (.one false 16 .nil))))))))))))))))) mixed (by kernel_rfl) ?_; refine sx ?_
            refine s_rw (t := 75) rfl hsv ?_
            refine s_rw (t := 81) rfl (hsl : _ = Value.int .i64 (hk.length : Int)) ?_
            refine sx ?_
            refine s_rw (t := 82) rfl (ci (by omega : _ = ((hk.length - 3 : Nat) : Int))) ?_
            refine sx ?_
            refine s_yA rfl rfl (by exact yy) ?_ (chk_held (by exact ent))
            refine s_yH rfl rfl rfl (y_addw rfl rfl) ?_
            refine s_rw (t := 85) rfl (bv_ofInt _).symm ?_
            refine sx ?_
            refine s_set1 (i := hk.length - 3) (y := UInt8.ofInt (((hk.getD (hk.length - 3) 0).toNat : Int) + 1)) rfl rfl (by exact at_) rfl (by omega) ?_
            refine sx ?_
            refine s_again (i + 1, hs.set i ⟨some ad, kc', hk.set (hk.length - 3) (UInt8.ofInt (((hk.getD (hk.length - 3) 0).toNat : Int) + 1)), va', vc', ys⟩) ⟨by simp only; omega, hend _ (by rw [List.length_set]; exact h5), hki.set hie (.inr ⟨by omega, ?_⟩)⟩ (by simp only; omega) (he := hfin _)
            have e1 : hk.length - 3 = ek.length - 1 := by omega
            have e2 : hk.getD (ek.length - 1) 0 = ek.getD (ek.length - 1) 0 := by rw [hke]; simp only [List.getD]; rw [List.getElem?_append_left (by omega)]
            rw [e1, e2] at g3 ⊢
            refine ⟨show 0 < ek.length by omega, by simp only at g3 ⊢; omega, ?_⟩
            show (hk.set (ek.length - 1) _).take ek.length = _
            rw [hke, List.set_append_left _ _ (by omega), List.take_left' (by rw [List.length_set])]
          · refine sx ?_
            exact s_again (i + 1, hs.set i ⟨ka', kc', hk, va', vc', ys⟩) ⟨by simp only; omega, hend hk h5, hki.set hie (.inl hke)⟩ (by simp only; omega) (he := hfin hk)
        · refine sx ?_
          exact s_again (i + 1, hs.set i ⟨ka', kc', hk, va', vc', ys⟩) ⟨by simp only; omega, hend hk h5, hki.set hie (.inl hke)⟩ (by simp only; omega) (he := hfin hk)
      · refine sx ?_
        exact s_again (i + 1, hs.set i ⟨ka', kc', hk, va', vc', ys⟩) ⟨by simp only; omega, hend hk h5, hki.set hie (.inl hke)⟩ (by simp only; omega) (he := hfin hk)
  · obtain rfl : i = L.fs.length := by omega
    have hg := hsh.ren (w0 := w0) (a := L.la) (c := L.lc) (r := [kvB L.b1 1, kvB L.b2 2]) (H2 := H)
    have hgl := hsh.gs_len
    have hgS : Small ((gsE L.fs hs).map KV.p) := by rw [Small, hsh.gs_wt]; exact hS
    refine s_ent (.hb b1 33 [.slice L.la (L.fs.length + 2) L.lc, .slice L.ka L.fs.length L.kc, .slice L.va L.fs.length L.vc] :: .star [ol 47 L.la L.lc L.ls, .star (oKV 5 hs)] :: H) (by
      refine Ent.cons (by exact rm) ?_
      refine Ent.trans ?_ (Ent.star (L := [ol 47 L.la L.lc L.ls, .star (oKV 5 hs)]) (Ent.refl (H := [ol 47 L.la L.lc L.ls, .star (oKV 5 hs)] ++ H)))
      exact ent) ?_
    refine s_kn (Kn.sl (RSl.tl (RSl.ent (RSl.hd (E := 47) (a := L.la) (c := L.lc) (xs := L.ls)) (Ent.mem' (by simp)) : RSl w0 (.star [ol 47 L.la L.lc L.ls, .star (oKV 5 hs)] :: H) L.la L.lc L.ls))) fun l2 => ?_
    simp only [maxLen, Ln.ls, List.length_append, List.length_cons, List.length_nil] at l2
    refine sx ?_
    have hcp := copies_s (w0 := w0) (H := .hb b1 33 [.slice L.la (L.fs.length + 2) L.lc, .slice L.ka L.fs.length L.kc, .slice L.va L.fs.length L.vc] :: .star [ol 47 L.la L.lc L.ls, .star (oKV 5 hs)] :: H) (a := L.la) (c := L.lc) (es := gsE L.fs hs) (REn.tl hg) hgS
    rw [hgl] at hcp
    refine s_call rfl hcp ?_
    rintro _ _ ⟨a', c', now, rfl, hnow, rfl⟩
    refine ⟨chk_seq, ?_⟩
    refine sx ?_
    exact s_ret1 rfl rfl ⟨a', c', now, gsE L.fs hs, [ol 47 L.la L.lc L.ls, .star (oKV 5 hs)], rfl, hnow, hgl, hgS, ⟨fun hr => hki.rise hsh hr, hsh.gs_wt⟩, fun H2 => hsh.ren, rfl⟩
theorem turn_s {L : Ln} (hS : Small (L.fs.map KV.p)) : FnS Try.prog w0 (.star L.cs :: H) 18 #[L.v]
    (fun v H' => ∃ a' c' now gs cs', v = .slice a' (now : List KV).length c' ∧ now.map KV.p = (gs : List KV).map KV.p ∧ gs.length = L.fs.length ∧ Small (gs.map KV.p) ∧ (∀ H2, REn w0 (.star cs' :: H2) L.la L.lc gs) ∧ H' = oe a' c' now :: .star cs' :: H) :=
  (turnR_s hS).mono fun _ _ ⟨a', c', now, gs, cs', h1, h2, h3, h4, _, h6⟩ => ⟨a', c', now, gs, cs', h1, h2, h3, h4, h6⟩
end Go.Sx
