/- Part of a proof: several parts of a walk, one behind the other. -/
import Derived.Test.YtpnhoafmlhlfgaaGreatCMG
import Derived.Test.YtpnhoafmlhlfgaaGreatCGH
namespace Go.Sx
open Go Go.Proofs
set_option maxRecDepth 10000
variable {w0 : World} {H : List Ck}
@[reducible] def wiL (b2 b5 : Nat) (v : Value) (a : Option Addr) (c : Nat) (ms : List Mg) : List Ck := [.hb b2 40 [v], .hb b5 55 [.slice a ms.length c], ol 71 a c ms, stars oM ms]
structure WhI where
  i : Nat
  a : Option Addr
  c : Nat
  ms : List Mg
set_option maxHeartbeats 4000000 in
theorem with_s {v : Value} (hv : v.oneCell' = true) {a : Option Addr} {c : Nat} {ms : List Mg} (hx : RMs w0 H a c ms) (hl : ms.length ≤ 137438953472) (hz : ∀ m ∈ ms, m.lo.length ≤ 140737488355328 ∧ m.hi.length ≤ 140737488355328 ∧ m.v.length ≤ 140737488355328) :
    FnS Tryz.prog w0 H 20 #[v, .slice a ms.length c] (fun v' H' => ∃ b2 b5 a' c' ls, v' = .func (.func 44) #[] #[.pointer (some ⟨b5, 0, none⟩), .pointer (some ⟨b2, 0, none⟩)] ∧ (ls : List Mg).map Mg.d = ms.map Mg.d ∧ H' = wiL b2 b5 v a' c' ls ++ H) := by
  refine fns_enter Tryz.func20 rfl rfl rfl ?_
  have hsl := hx.sl
  refine s_kn (Kn.sl hsl) fun l1 => ?_
  simp only [maxLen] at l1
  refine sx ?_
  refine s_box1 rfl hv fun b2 => ?_
  refine sx ?_
  refine s_alloc fun b5 => ?_
  refine sx ?_
  refine s_loop (fun q : WhI => [(2, .pointer (some ⟨b2, 0, none⟩)), (5, .pointer (some ⟨b5, 0, none⟩)), (8, .slice a ms.length c), (9, .int .i64 ms.length), (10, .int .i64 q.i)]) (fun q => .hb b2 40 [v] :: .hb b5 55 [.slice q.a q.ms.length q.c] :: ol 71 q.a q.c q.ms :: stars oM q.ms :: H) (fun q => q.i ≤ ms.length ∧ q.ms.map Mg.d = (ms.map Mg.d).take q.i) (fun q => ms.length - q.i) ⟨0, none, 0, []⟩ ⟨Nat.zero_le _, by simp⟩ ?_ (he := ?_)
  rotate_left
  · refine Ent.cons (by exact rm) (Ent.cons (by exact rm) ?_)
    exact Ent.nilS.trans (Ent.head stars_nil)
  rintro ⟨i, oa, oc, os⟩ ⟨h1, h2⟩
  simp only at h1 h2 ⊢
  have hol : os.length = i := by
    have := congrArg List.length h2
    simp only [List.length_map, List.length_take] at this
    omega
  refine sx ?_
  refine s_if rfl (fun t1 => ?_) (fun t1 => ?_)
  · obtain ⟨m, hm⟩ := get_lt ms i (by omega)
    have hmg := hx.el m (List.mem_of_getElem? hm)
    obtain ⟨y1, y2, y3⟩ := hz m (List.mem_of_getElem? hm)
    have hlo := hmg.lo
    have hhi := hmg.hi
    have hvv := hmg.v
    refine sx ?_
    refine s_alloc fun b7 => ?_
    refine sx ?_
    refine s_drU (.hb b7 71 (Cel.f m) :: .hb b5 55 [.slice oa os.length oc] :: H) (.one true 0 (.one true 1 (.one true 3 (.one true 4 (.one true 6 (.one true 7 (.one false 2 (.one true 9 (.one false 5 (.one false 8 .nil)))))))))) (.one false 10 (.one true 11 (.one false 12 (.one true 13 (.one false 14 .nil))))) [10, 12, 14] #[true, true, true, true, true, true, true, true, true, true, false, false, false, false, false] mixed (by kernel_rfl) ?_
    refine sx ?_
    refine s_call rfl (copied_s (xs := m.lo) (by exact rby) y1) ?_
    rintro _ _ ⟨a5, rfl, rfl⟩
    refine ⟨chk_held (by exact ent), ?_⟩
    refine sx ?_
    refine s_call rfl (copied_s (xs := m.hi) (by exact rby) y2) ?_
    rintro _ _ ⟨a8, rfl, rfl⟩
    refine ⟨chk_held (by exact ent), ?_⟩
    refine sx ?_
    refine s_call rfl (copied_s (xs := m.v) (by exact rby) y3) ?_
    rintro _ _ ⟨a11, rfl, rfl⟩
    refine ⟨chk_held (by exact ent), ?_⟩
    refine sx ?_
    refine s_bar ?_
    refine sx ?_
    refine s_bsl [(⟨m.st, m.kd, a5, m.lo.length, m.lo, a8, m.hi.length, m.hi, a11, m.v.length, m.v⟩ : Mg)] rfl rfl fun b42 => ?_
    refine s_app (xs := os) (ys := [(⟨m.st, m.kd, a5, m.lo.length, m.lo, a8, m.hi.length, m.hi, a11, m.v.length, m.v⟩ : Mg)]) ?_ (hby := by simp only [List.length_cons, List.length_nil]; omega)
    intro a4 c4
    refine sx ?_
    refine s_again ⟨i + 1, a4, c4, os ++ [⟨m.st, m.kd, a5, m.lo.length, m.lo, a8, m.hi.length, m.hi, a11, m.v.length, m.v⟩]⟩ ⟨by simp only; omega, ?_⟩ (by simp only; omega) (he := ?_)
    · simp only [List.map_append]
      rw [h2, snocT (get_map (f := Mg.d) hm)]
      rfl
    · refine Ent.cons (by exact rm) (Ent.cons (by exact rm) (Ent.cons (by exact rm) ?_))
      exact Ent.trans (H' := ob a5 m.lo.length m.lo :: ob a8 m.hi.length m.hi :: ob a11 m.v.length m.v :: stars oM os :: H) (by exact ent) (stars_snoc (f := oM) (s := ⟨m.st, m.kd, a5, m.lo.length, m.lo, a8, m.hi.length, m.hi, a11, m.v.length, m.v⟩))
  obtain rfl : i = ms.length := by omega
  rw [List.take_of_length_le (by simp)] at h2
  refine sx ?_
  exact s_ret1 rfl rfl ⟨b2, b5, oa, oc, os, rfl, h2, rfl⟩
end Go.Sx
namespace Go.Sx
open Go Go.Proofs
set_option maxRecDepth 10000
variable {w0 : World} {H : List Ck}
open Classical in
/-- What is there by messages, rising. -/
noncomputable def putsM (ms : List MD) : List Pp := if h : ∃ ps, IsMean ms ps then (h.choose.filter PD.put).map fun p => (p.key, p.v) else []
theorem putsM_eq {ms : List MD} {ps : List PD} (h : IsMean ms ps) : putsM ms = (ps.filter PD.put).map fun p => (p.key, p.v) := by
  have hx : ∃ ps, IsMean ms ps := ⟨ps, h⟩
  unfold putsM
  rw [dif_pos hx, IsMean.uniq hx.choose_spec h fun _ => rfl]
def ahP (all : Bool) (key : Bs) (k : Bs) : Bool := all || decide (cmp k key < 0)
def withL (sd : Bs → Bool) : List Pp → List Pp → List Pp
  | ps, [] => ps
  | ps, e :: r => ps.takeWhile (fun p => ahP false e.1 p.1) ++ ((if sd e.1 = true then [] else [e]) ++ withL sd (ps.dropWhile fun p => ahP false e.1 p.1) r)
def tW (all : Bool) (key : Bs) (ps : List KV) : List KV := ps.takeWhile fun p => ahP all key p.k
def dW (all : Bool) (key : Bs) (ps : List KV) : List KV := ps.dropWhile fun p => ahP all key p.k
theorem tW_p (all : Bool) (key : Bs) (ps : List KV) : (tW all key ps).map KV.p = (ps.map KV.p).takeWhile fun p => ahP all key p.1 := by
  unfold tW
  rw [List.takeWhile_map]
  rfl
theorem dW_p (all : Bool) (key : Bs) (ps : List KV) : (dW all key ps).map KV.p = (ps.map KV.p).dropWhile fun p => ahP all key p.1 := by
  unfold dW
  rw [List.dropWhile_map]
  rfl
theorem tW_go {all : Bool} {key : Bs} {e : KV} {r : List KV} (h : ahP all key e.k = true) : tW all key (e :: r) = e :: tW all key r ∧ dW all key (e :: r) = dW all key r := by simp [tW, dW, h]
theorem tW_no {all : Bool} {key : Bs} {e : KV} {r : List KV} (h : ahP all key e.k = false) : tW all key (e :: r) = [] ∧ dW all key (e :: r) = e :: r := by simp [tW, dW, h]
structure AhI where
  j : Nat
  K : List Ck
  a : Option Addr
  c : Nat
  ps : List KV
set_option maxHeartbeats 4000000 in
theorem ahead_s {ll : Nat} {φ : Nat → List Ck → Prop} {fin : List Ck → Prop} {L : List Pp} {g : Ck}
    (hy : ∀ (i : Nat) (x : KV) (K T E : List Ck), L[i]? = some x.p → φ i K → T = oKVs x → YldS Tryz.prog w0 (.star T :: .star K :: g :: E) ll #[.slice x.ka x.k.length x.kc, .slice x.va x.v.length x.vc] (fun v K' => ∃ K2, (v = .bool true ∧ φ (i + 1) K2 ∨ v = .bool false ∧ fin K2) ∧ K' = .star K2 :: g :: E))
    {b3 b4 : Nat} {a oa ka : Option Addr} {c oc kc : Nat} {os ps : List KV} {j : Nat} {K R : List Ck} {M : List Pp} {all : Bool} {key : Bs}
    (hsf : Sf w0 oa oc os a c ps) (hφ : φ j K) (hL : L.drop j = (tW all key ps).map KV.p ++ M) (hk : RBy w0 R ka kc key) :
    FnS Tryz.prog w0 (.star K :: .hb b3 78 [yv ll] :: .hb b4 22 [.slice a ps.length c] :: ol 51 oa oc os :: stars oKVs ps :: g :: R) 46 #[.slice ka key.length kc, .bool all, .pointer (some ⟨b4, 0, none⟩), .pointer (some ⟨b3, 0, none⟩)]
      (fun v H' => ∃ K2, (v = .bool true ∧ φ (j + (tW all key ps).length) K2 ∧ ∃ a' c' ps', ps' = dW all key ps ∧ Sf w0 oa oc os a' c' ps' ∧ H' = .star K2 :: .hb b3 78 [yv ll] :: .hb b4 22 [.slice a' ps'.length c'] :: ol 51 oa oc os :: stars oKVs ps' :: g :: R) ∨ (v = .bool false ∧ fin K2 ∧ H' = .star K2 :: g :: R)) := by
  refine fns_enter Tryz.func46 rfl rfl rfl ?_
  refine sx ?_
  refine s_loop (fun q : AhI => [(0, .slice ka key.length kc), (1, .bool all), (2, .pointer (some ⟨b4, 0, none⟩)), (3, .pointer (some ⟨b3, 0, none⟩))]) (fun q => .star q.K :: .hb b3 78 [yv ll] :: .hb b4 22 [.slice q.a q.ps.length q.c] :: ol 51 oa oc os :: stars oKVs q.ps :: g :: R) (fun q => Sf w0 oa oc os q.a q.c q.ps ∧ φ q.j q.K ∧ L.drop q.j = (tW all key q.ps).map KV.p ++ M ∧ dW all key q.ps = dW all key ps ∧ q.j + (tW all key q.ps).length = j + (tW all key ps).length) (fun q => q.ps.length) ⟨j, K, a, c, ps⟩ ⟨hsf, hφ, hL, rfl, rfl⟩ ?_
  rintro ⟨i, K1, xa, xc, xs⟩ ⟨g1, g2, g3, g4, g5⟩
  simp only at g1 g2 g3 g4 g5 ⊢
  refine s_kn (Kn.sl (xs := xs) (g1.sl.ent (Ent.cons (by exact rm) Ent.nil))) fun l1 => ?_
  simp only [maxLen] at l1
  cases xs with
  | nil =>
    refine sx ?_
    exact s_ret1 rfl rfl ⟨K1, .inl ⟨rfl, by rw [← g5]; exact g2, xa, xc, [], by rw [← g4]; rfl, g1, rfl⟩⟩
  | cons e r =>
    have hl1 : 1 ≤ (e :: r).length := by simp
    have hsl : RSl w0 (ol 51 oa oc os :: stars oKVs (e :: r) :: g :: R) xa xc (e :: r) := g1.sl.ent (Ent.cons (by exact rm) Ent.nil)
    have hek : RBy w0 (stars oKVs (e :: r) :: g :: R) e.ka e.kc e.k := (REe.st (by simp)).k
    have hkk : RBy w0 (stars oKVs (e :: r) :: g :: R) ka kc key := hk.tl.tl
    refine sx ?_
    refine s_rw (t := 11) (v' := .bool true) rfl (by simp) ?_
    have hLi' : ahP all key e.k = true → L[i]? = some e.p := fun h => by
      have h2 := List.getElem?_drop (xs := L) (i := i) (j := 0)
      rw [g3, (tW_go h).1] at h2
      simpa using h2.symm
    cases all with
    | true =>
      have hah : ahP true key e.k = true := rfl
      have hLi := hLi' hah
      · refine sx ?_
        refine s_alloc fun b7 => ?_
        refine sx ?_
        refine s_yS rfl rfl rfl (y_slF (k := 1) rfl rfl (by omega)) ?_
        refine sx ?_
        refine s_yld rfl rfl ((hy i e K1 _ (.hb b7 51 (Cel.f e) :: .hb b3 78 [yv ll] :: .hb b4 22 [.slice (sl xa xc 1 2) r.length (xc - 1)] :: ol 51 oa oc os :: stars oKVs r :: R) hLi g2 rfl).ent ?_) ?_
        · refine Ent.trans (H' := stars oKVs (e :: r) :: .star K1 :: g :: .hb b7 51 (Cel.f e) :: .hb b3 78 [yv ll] :: .hb b4 22 [.slice (sl xa xc 1 2) r.length (xc - 1)] :: ol 51 oa oc os :: R) (by exact ent) ?_
          refine Ent.trans (H' := ob e.ka e.kc e.k :: ob e.va e.vc e.v :: stars oKVs r :: .star K1 :: g :: .hb b7 51 (Cel.f e) :: .hb b3 78 [yv ll] :: .hb b4 22 [.slice (sl xa xc 1 2) r.length (xc - 1)] :: ol 51 oa oc os :: R) stars_cons ?_
          refine ent_oKVs (by exact rm) (by exact rm) ?_
          exact entq
        rintro _ _ ⟨K2, hK2, rfl⟩
        refine ⟨chk_seq, ?_⟩
        rcases hK2 with ⟨rfl, hK2⟩ | ⟨rfl, hK2⟩
        · refine sx ?_
          refine s_again ⟨i + 1, K2, sl xa xc 1 2, xc - 1, r⟩ ⟨⟨g1.sl.drop (j := 1) (by simp), fun y h => g1.mem y (List.mem_cons_of_mem _ h)⟩, hK2, ?_, ?_, ?_⟩ (by simp)
          · simp only
            rw [← List.drop_drop, g3, (tW_go hah).1]
            rfl
          · rw [← g4, (tW_go hah).2]
          · simp only
            rw [← g5, (tW_go hah).1, List.length_cons]
            omega
        · refine sx ?_
          exact s_ret1 rfl rfl ⟨K2, .inr ⟨rfl, hK2, rfl⟩⟩
    | false =>
      refine sx ?_
      refine s_callV rfl (compare_s (xs := e.k) (ys := key) (by exact rby) (by exact rby)) ?_
      refine sx ?_
      refine s_if rfl (fun t2 => ?_) (fun t2 => ?_)
      · have hah : ahP false key e.k = true := by simp [ahP, t2]
        have hLi := hLi' hah
        refine sx ?_
        refine s_alloc fun b7 => ?_
        refine sx ?_
        refine s_yS rfl rfl rfl (y_slF (k := 1) rfl rfl (by omega)) ?_
        refine sx ?_
        refine s_yld rfl rfl ((hy i e K1 _ (.hb b7 51 (Cel.f e) :: .hb b3 78 [yv ll] :: .hb b4 22 [.slice (sl xa xc 1 2) r.length (xc - 1)] :: ol 51 oa oc os :: stars oKVs r :: R) hLi g2 rfl).ent ?_) ?_
        · refine Ent.trans (H' := stars oKVs (e :: r) :: .star K1 :: g :: .hb b7 51 (Cel.f e) :: .hb b3 78 [yv ll] :: .hb b4 22 [.slice (sl xa xc 1 2) r.length (xc - 1)] :: ol 51 oa oc os :: R) (by exact ent) ?_
          refine Ent.trans (H' := ob e.ka e.kc e.k :: ob e.va e.vc e.v :: stars oKVs r :: .star K1 :: g :: .hb b7 51 (Cel.f e) :: .hb b3 78 [yv ll] :: .hb b4 22 [.slice (sl xa xc 1 2) r.length (xc - 1)] :: ol 51 oa oc os :: R) stars_cons ?_
          refine ent_oKVs (by exact rm) (by exact rm) ?_
          exact entq
        rintro _ _ ⟨K2, hK2, rfl⟩
        refine ⟨chk_seq, ?_⟩
        rcases hK2 with ⟨rfl, hK2⟩ | ⟨rfl, hK2⟩
        · refine sx ?_
          refine s_again ⟨i + 1, K2, sl xa xc 1 2, xc - 1, r⟩ ⟨⟨g1.sl.drop (j := 1) (by simp), fun y h => g1.mem y (List.mem_cons_of_mem _ h)⟩, hK2, ?_, ?_, ?_⟩ (by simp)
          · simp only
            rw [← List.drop_drop, g3, (tW_go hah).1]
            rfl
          · rw [← g4, (tW_go hah).2]
          · simp only
            rw [← g5, (tW_go hah).1, List.length_cons]
            omega
        · refine sx ?_
          exact s_ret1 rfl rfl ⟨K2, .inr ⟨rfl, hK2, rfl⟩⟩
      · have hah : ahP false key e.k = false := by simp [ahP, t2]
        refine sx ?_
        refine s_ret1 rfl rfl ⟨K1, .inl ⟨rfl, ?_, xa, xc, e :: r, ?_, g1, rfl⟩⟩
        · rw [← g5, (tW_no hah).1]
          exact g2
        · rw [← g4, (tW_no hah).2]
end Go.Sx
namespace Go.Sx
open Go
theorem ndp_len {α : Type} [DecidableEq α] : ∀ (xs ys : List α), xs.Pairwise (· ≠ ·) → (∀ x ∈ xs, x ∈ ys) → xs.length ≤ ys.length
  | [], _, _, _ => Nat.zero_le _
  | x :: xs, ys, h, hs => by
    obtain ⟨h1, h2⟩ := List.pairwise_cons.1 h
    have hx := hs x (by simp)
    have := ndp_len xs (ys.erase x) h2 fun y hy => (List.mem_erase_of_ne (h1 y hy).symm).2 (hs y (List.mem_cons_of_mem _ hy))
    rw [List.length_erase_of_mem hx] at this
    have : 0 < ys.length := List.length_pos_of_mem hx
    rw [List.length_cons]
    omega
theorem getM_putJ : ∀ {l : List MD} {key v : Bs}, getM l key = some (some v) → ∃ m ∈ l, m.kd = 1 ∧ m.v = v ∧ m.lo = key
  | [], _, _, h => by cases h
  | m :: r, key, v, h => by
    unfold getM at h
    split at h
    · rename_i o ho
      cases h
      obtain ⟨m', h1, h2⟩ := getM_putJ ho
      exact ⟨m', List.mem_cons_of_mem _ h1, h2⟩
    · split at h
      · rename_i hb
        split at h
        · rename_i hk
          simp only [Option.some.injEq] at h
          refine ⟨m, by simp, hk, h, ?_⟩
          rw [show saidR m = (m.lo, m.lo ++ [0], false) by simp [saidR, hk]] at hb
          exact (has_one.1 hb).symm
        · cases h
      · cases h
theorem put_get {ms : List MD} {ps : List PD} (h : IsMean ms ps) {p : PD} (hp : p ∈ ps) (hb : p.put = true) : getM ms p.key = some (some p.v) :=
  (h.2 p.key (some p.v)).1 ⟨p, hp, by unfold spP; rw [if_pos hb, if_pos rfl]⟩
abbrev ptsL (ps : List PD) : List Pp := (ps.filter PD.put).map fun p => (p.key, p.v)
theorem ptsL_mem {ms : List MD} {ps : List PD} (h : IsMean ms ps) {e : Pp} (he : e ∈ ptsL ps) : ∃ m ∈ ms, m.kd = 1 ∧ m.v = e.2 ∧ m.lo = e.1 := by
  obtain ⟨p, hp, rfl⟩ := List.mem_map.1 he
  obtain ⟨h1, h2⟩ := List.mem_filter.1 hp
  exact getM_putJ (put_get h h1 h2)
theorem ptsL_lt {ms : List MD} {ps : List PD} (h : IsMean ms ps) : (ptsL ps).Pairwise fun a b => cmp a.1 b.1 < 0 := by
  rw [List.pairwise_map]
  refine ((h.1.2.filter PD.put).imp_of_mem ?_)
  intro a b ha hb hs
  have h1 := hs.1
  simp only [endP, atP, (List.mem_filter.1 ha).2, (List.mem_filter.1 hb).2, if_true] at h1
  exact lt_tr (by rw [cmp_next]; decide) h1
theorem ptsL_len {ms : List MD} {ps : List PD} (h : IsMean ms ps) : (ptsL ps).length ≤ ms.length := by
  have := ndp_len ((ptsL ps).map Prod.fst) (ms.map MD.lo) (by
    rw [List.pairwise_map]
    refine (ptsL_lt h).imp ?_
    intro a b hab e
    rw [e, cmp_self] at hab
    omega) (by
    intro x hx
    obtain ⟨e, he, rfl⟩ := List.mem_map.1 hx
    obtain ⟨m, h1, _, _, h2⟩ := ptsL_mem h he
    exact List.mem_map.2 ⟨m, h1, h2⟩)
  simpa using this
theorem ptsL_take {ps : List PD} {i : Nat} : (ptsL (ps.take i)).length ≤ (ptsL ps).length := by
  unfold ptsL
  rw [List.length_map, List.length_map]
  exact ((List.take_sublist i ps).filter _).length_le
end Go.Sx

