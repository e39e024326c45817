/- Part of a proof: the document's map of entries, walked. -/
import Derived.Test.YtimakbpghggdfaaGreatCMQ
import Derived.Test.YtimakbpghggdfaaGreatCOCj
namespace Go.Sx
open Go Go.Proofs
set_option maxRecDepth 10000
variable {w0 : World} {H : List Ck}
def snocP (L : List (Bs × Bs)) (p : Bs × Bs) : List (Bs × Bs) := (match L.getLast? with
  | some x => if x.1 = p.1 then L.dropLast else L
  | none => L) ++ [p]
theorem lasts_ne : ∀ (e : KV) (r : List KV), lastsE (e :: r) ≠ []
  | e, [] => by simp [lastsE]
  | e, f :: r => by
    rw [lastsE]
    split
    · exact lasts_ne f r
    · simp
theorem lasts_snoc (e : KV) : ∀ (l : List KV), (lastsE (l ++ [e])).map KV.p = snocP ((lastsE l).map KV.p) e.p
  | [] => rfl
  | [a] => by
    show (lastsE [a, e]).map KV.p = _
    rw [show lastsE [a, e] = if a.k = e.k then lastsE [e] else a :: lastsE [e] by conv => lhs; rw [lastsE]]
    by_cases h : a.k = e.k
    · rw [if_pos h]
      simp [lastsE, snocP, KV.p, h]
    · rw [if_neg h]
      simp [lastsE, snocP, KV.p, h]
  | a :: b :: r => by
    have ih := lasts_snoc e (b :: r)
    have hne := lasts_ne b r
    show (lastsE (a :: b :: (r ++ [e]))).map KV.p = _
    rw [lastsE, lastsE]
    by_cases h : a.k = b.k
    · rw [if_pos h, if_pos h]
      exact ih
    · rw [if_neg h, if_neg h, List.map_cons, List.map_cons]
      rw [show lastsE (b :: (r ++ [e])) = lastsE (b :: r ++ [e]) from rfl, ih]
      obtain ⟨M, hM⟩ : ∃ M, M = (lastsE (b :: r)).map KV.p := ⟨_, rfl⟩
      have hMn : M ≠ [] := by rw [hM]; simpa using hne
      rw [← hM]
      unfold snocP
      rw [List.getLast?_cons]
      cases hg : M.getLast? with
      | none => exact absurd (List.getLast?_eq_none_iff.1 hg) hMn
      | some x =>
        simp only [Option.getD_some]
        split
        · rw [List.dropLast_cons_of_ne_nil hMn]
          rfl
        · rfl
def nsL (i : Nat) : List Int := (List.range i).map Int.ofNat
theorem nsL_succ (i : Nat) : nsL (i + 1) = nsL i ++ [(i : Int)] := by simp [nsL, List.range_succ]
theorem nsL_len (i : Nat) : (nsL i).length = i := by simp [nsL]
theorem nsL_in (es : List KV) : InE es (nsL es.length) := by
  intro n hn
  obtain ⟨k, hk, rfl⟩ := List.mem_map.1 hn
  have := List.mem_range.1 hk
  show (0 : Int) ≤ (k : Int) ∧ (k : Int) < es.length
  constructor <;> omega
theorem nsL_map (es : List KV) : (nsL es.length).map (kvAt es) = es := by
  refine List.ext_getElem? fun i => ?_
  unfold nsL
  rw [List.map_map, List.getElem?_map]
  by_cases h : i < es.length
  · rw [List.getElem?_range h]
    have := kvAt_get (es := es) (n := (i : Int)) ⟨by omega, by omega⟩
    simp only [Option.map_some, Function.comp]
    show some (kvAt es (i : Int)) = es[i]?
    rw [← this]
    rfl
  · rw [List.getElem?_eq_none (by simpa using h), List.getElem?_eq_none (by simpa using h)]
    rfl
theorem set_lastM {α : Type} {L : List α} {j : Nat} {v : α} (h : L.length = j + 1) : L.set j v = L.dropLast ++ [v] := by
  rw [List.set_eq_take_append_cons_drop, if_pos (by omega), List.drop_of_length_le (by omega), List.dropLast_eq_take, h]
  rfl
structure MpI where
  i : Nat
  a : Option Addr
  c : Nat
  os : List KV
set_option maxHeartbeats 4000000 in
theorem rmap_s {a : Option Addr} {c : Nat} {es : List KV} (hl : es.length ≤ 549755813888) (hx : RSl w0 H a c es) (hr : ∀ e ∈ es, REe w0 H e) (hsm : ∀ e ∈ es, e.k.length ≤ 140737488355328 ∧ e.v.length ≤ 140737488355328) :
    FnS Tryz.prog w0 H 119 #[.slice a es.length c] (fun v H' => ∃ a' c' out s, v = .slice a' (out : List KV).length c' ∧ Mrg es s ∧ out.map KV.p = (lastsE s).map KV.p ∧ H' = ol 31 a' c' out :: stars oKVs out :: H) := by
  refine fns_enter Tryz.func119 rfl rfl rfl ?_
  refine sx ?_
  refine s_loop (fun q : Nat × Option Addr × Nat => [(0, .slice a es.length c), (3, .slice q.2.1 (nsL q.1).length q.2.2), (4, .int .i64 q.1)]) (fun q => ol 3 q.2.1 q.2.2 (nsL q.1) :: H) (fun q => q.1 ≤ es.length) (fun q => es.length - q.1) (0, none, 0) (Nat.zero_le _) ?_ (he := Ent.nilS)
  rintro ⟨i, na, nc⟩ h1
  simp only at h1 ⊢
  refine sx ?_
  refine s_if rfl (fun t1 => ?_) (fun t1 => ?_)
  · refine sx ?_
    refine s_bsl [(i : Int)] rfl rfl fun b19 => ?_
    refine s_app (xs := nsL i) (ys := [(i : Int)]) ?_ (hby := by simp only [List.length_cons, List.length_nil, nsL_len]; omega)
    intro a4 c4
    rw [← nsL_succ]
    refine sx ?_
    exact s_again (i + 1, a4, c4) (by simp only; omega) (by simp only; omega)
  obtain rfl : i = es.length := by omega
  refine sx ?_
  refine s_call rfl (rstable_s (es := es) (ns := nsL es.length) hl _ hx.tl (fun e he => (hr e he).k.tl) RSl.hd (nsL_in es) (Nat.le_refl _) (by rw [nsL_len]; omega)) ?_
  rintro _ _ ⟨ma, mc, ms, ML, rfl, hM, hI, rfl, hRM⟩
  refine ⟨chk_seq, ?_⟩
  rw [nsL_map] at hM
  obtain ⟨s, hs⟩ : ∃ s, s = ms.map (kvAt es) := ⟨_, rfl⟩
  rw [← hs] at hM
  have hml : ms.length = es.length := by have := hM.st.len; rw [hs, List.length_map] at this; omega
  refine s_entL (.star [.star ML, ol 3 na nc (nsL es.length)] :: H) (Ent.star (L := [.star ML, ol 3 na nc (nsL es.length)]) (by exact ent)) ?_
  have hRM2 : RSl w0 (.star [.star ML, ol 3 na nc (nsL es.length)] :: H) ma mc ms := hRM.ent (Ent.open (by exact ent))
  obtain ⟨L2, hL2⟩ : ∃ L, L = [.star ML, ol 3 na nc (nsL es.length)] := ⟨_, rfl⟩
  rw [← hL2] at hRM2 ⊢
  refine sx ?_
  refine s_loop (fun q : MpI => [(0, .slice a es.length c), (3, .slice ma ms.length mc), (5, .slice q.a q.os.length q.c), (6, .int .i64 q.i)]) (fun q => ol 31 q.a q.c q.os :: stars oKVs q.os :: .star L2 :: H) (fun q => q.i ≤ ms.length ∧ q.os.map KV.p = (lastsE (s.take q.i)).map KV.p) (fun q => ms.length - q.i) ⟨0, none, 0, []⟩ ⟨Nat.zero_le _, by simp [lastsE]⟩ ?_ (he := Ent.nilS.trans (Ent.head stars_nil))
  rintro ⟨i, oa, oc, os⟩ ⟨g1, g2⟩
  simp only at g1 g2 ⊢
  have hol : os.length ≤ es.length := by
    have h1 := congrArg List.length g2
    rw [List.length_map, List.length_map] at h1
    have h2 := (lasts_sub (s.take i)).length_le
    rw [List.length_take] at h2
    omega
  refine sx ?_
  refine s_if rfl (fun t1 => ?_) (fun t1 => ?_)
  · obtain ⟨x, hxm⟩ := get_lt ms i (by omega)
    obtain ⟨x1, x2⟩ := hI x (List.mem_of_getElem? hxm)
    obtain ⟨xn, rfl⟩ : ∃ n : Nat, x = n := ⟨x.toNat, by omega⟩
    have he : es[xn]? = some (kvAt es xn) := by have := kvAt_get (es := es) ⟨x1, x2⟩; simpa using this
    have hse : s[i]? = some (kvAt es xn) := by rw [hs]; exact get_map (f := kvAt es) hxm
    generalize kvAt es xn = e at he hse
    have her := hr e (List.mem_of_getElem? he)
    obtain ⟨y1, y2⟩ := hsm e (List.mem_of_getElem? he)
    have hek := her.k
    have hev := her.v
    refine sx ?_
    refine s_alloc fun b7 => ?_
    refine sx ?_
    refine s_cut (ι := Option Addr × Option Addr × Nat) (fun q => [(0, .slice a es.length c), (3, .slice ma ms.length mc), (5, .slice oa os.length oc), (6, .int .i64 i), (7, .pointer (some ⟨b7, 0, none⟩)), (8, .pointer (some ⟨q.2.2, 0, none⟩))])
      (fun q => .hb q.2.2 31 (Cel.f (⟨q.1, e.k.length, e.k, q.2.1, e.v.length, e.v⟩ : KV)) :: ob q.1 e.k.length e.k :: ob q.2.1 e.v.length e.v :: .hb b7 31 (Cel.f e) :: ol 31 oa oc os :: stars oKVs os :: .star L2 :: H) (fun _ => True) ?_ ?_
    · refine sx ?_; refine s_drH (.hb b7 31 (Cel.f e) :: H) (.one true 0 (.one true 1 (.one true 3 (.one true 4 (.alt (.one false 2 (.alt (.one false 5 (.one true 6 (.one false 7 (.one false 8 .nil)))) (.one false 7 (.one false 5 (.one true 6 (.one false 8 .nil)))))) (.one false 7 (.one false 2 (.one false 5 (.one true 6 (.one false 8 .nil)))))))))) mixed (by kernel_rfl) ?_; refine sx ?_
      refine s_alt ?_ ?_
      · refine s_call rfl (qcopy_s (xs := e.k) (by exact rby) y1) ?_
        rintro _ _ ⟨ka, rfl, rfl⟩
        refine ⟨chk_held (by exact ent), ?_⟩
        refine sx ?_
        refine s_alt ?_ ?_
        · refine s_call rfl (qcopy_s (xs := e.v) (by exact rby) y2) ?_
          rintro _ _ ⟨va, rfl, rfl⟩
          refine ⟨chk_held (by exact ent), ?_⟩
          refine sx ?_
          refine s_alloc fun b8 => ?_
          refine sx ?_
          refine s_mid (ka, va, b8) trivial (he := ?_)
          exact Ent.cons (by exact rm) (by exact ent)
        · refine s_alloc fun b8 => ?_
          refine sx ?_
          refine s_call rfl (qcopy_s (xs := e.v) (by exact rby) y2) ?_
          rintro _ _ ⟨va, rfl, rfl⟩
          refine ⟨chk_held (by exact ent), ?_⟩
          refine sx ?_
          refine s_mid (ka, va, b8) trivial (he := ?_)
          exact Ent.cons (by exact rm) (by exact ent)
      · refine s_alloc fun b8 => ?_
        refine sx ?_
        refine s_call rfl (qcopy_s (xs := e.k) (by exact rby) y1) ?_
        rintro _ _ ⟨ka, rfl, rfl⟩
        refine ⟨chk_held (by exact ent), ?_⟩
        refine sx ?_
        refine s_call rfl (qcopy_s (xs := e.v) (by exact rby) y2) ?_
        rintro _ _ ⟨va, rfl, rfl⟩
        refine ⟨chk_held (by exact ent), ?_⟩
        refine sx ?_
        refine s_mid (ka, va, b8) trivial (he := ?_)
        exact Ent.cons (by exact rm) (by exact ent)
    rintro ⟨ka, va, b8⟩ _
    simp only
    refine sx ?_
    obtain ⟨y, hy⟩ : ∃ y : KV, y = ⟨ka, e.k.length, e.k, va, e.v.length, e.v⟩ := ⟨_, rfl⟩
    have hyp : y.p = e.p := by rw [hy]; rfl
    have hnx : (lastsE (s.take (i + 1))).map KV.p = snocP (os.map KV.p) e.p := by rw [snocT hse, lasts_snoc, g2]
    have hyo : oKVs y = [ob ka e.k.length e.k, ob va e.v.length e.v] := by rw [hy]
    have hsnoc : Ent (ob ka e.k.length e.k :: ob va e.v.length e.v :: stars oKVs os :: .star L2 :: H) (stars oKVs (os ++ [y]) :: .star L2 :: H) := by
      have h := stars_snoc (f := oKVs) (s := y) (F := os) (H := .star L2 :: H)
      rw [hyo] at h
      exact h
    rw [← hy]
    by_cases hz : os.length = 0
    · have hsn : snocP (os.map KV.p) e.p = os.map KV.p ++ [y.p] := by
        obtain rfl := List.eq_nil_of_length_eq_zero hz
        rw [hyp]
        rfl
      refine s_if rfl (fun t => absurd t (by omega)) (fun _ => ?_)
      refine sx ?_
      refine s_bsl [y] rfl rfl fun b64 => ?_
      refine s_app (xs := os) (ys := [y]) ?_ (hby := by simp only [List.length_cons, List.length_nil]; omega)
      intro a4 c4
      refine sx ?_
      refine s_again ⟨i + 1, a4, c4, os ++ [y]⟩ ⟨by simp only; omega, ?_⟩ (by simp only; omega) (he := ?_)
      · simp only
        rw [hnx, List.map_append, hsn]
        rfl
      · refine Ent.cons (by exact rm) ?_
        refine Ent.trans (H' := ob ka e.k.length e.k :: ob va e.v.length e.v :: stars oKVs os :: .star L2 :: H) (by exact ent) hsnoc
    · obtain ⟨j, hj⟩ : ∃ j, os.length = j + 1 := ⟨os.length - 1, by omega⟩
      obtain ⟨z, hzj⟩ := get_lt os j (by omega)
      have hzr : REe w0 (stars oKVs os :: .star L2 :: H) z := REe.st (List.mem_of_getElem? hzj)
      have hzk := hzr.k
      have hlast : (os.map KV.p).getLast? = some z.p := by
        rw [List.getLast?_eq_getElem?, List.length_map, hj]
        exact get_map (f := KV.p) hzj
      refine s_if rfl (fun _ => ?_) (fun t => absurd (by omega) t)
      refine s_kn (φ := ∃ ad, oa = some ad) (fun w hw => own_gA (c := oc) (Sat.ownOf (c' := ol 31 oa oc os) (.tl (.tl (.tl (.tl .hd)))) hw) (by omega)) ?_
      rintro ⟨ad, rfl⟩
      refine s_rwC (t := 9) (v' := .int .i64 (j : Int)) rfl (by rw [hj]; congr 1; omega) ?_
      refine sx ?_; refine s_dr (.one true 0 (.one true 1 (.one true 2 (.one true 3 (.one true 4 (.one true 5 (.one true 6 (.one false 7 (.one true 8 .nil))))))))) mixed (by kernel_rfl) ?_; refine sx ?_
      refine s_callV rfl (qsame_s (xs := z.k) (ys := e.k) (by exact rby) (by exact rby)) ?_
      refine sx ?_
      refine s_if rfl (fun t2 => ?_) (fun t2 => ?_)
      · refine sx ?_
        refine s_setA (i := j) y rfl rfl (by exact at_) rfl (by omega) ?_
        refine sx ?_
        refine s_rwQ (t := 5) (v' := .slice (some ad) (os.set j y).length oc) rfl (by rw [List.length_set]) ?_
        refine s_again ⟨i + 1, some ad, oc, os.set j y⟩ ⟨by simp only; omega, ?_⟩ (by simp only; omega) (he := ?_)
        · simp only
          rw [hnx]
          unfold snocP
          rw [hlast]
          show _ = (if z.k = e.k then _ else _) ++ _
          rw [if_pos t2, List.map_set, ← hyp]
          exact set_lastM (by rw [List.length_map]; exact hj)
        · refine Ent.cons (by exact rm) ?_
          refine Ent.trans (H' := stars oKVs os :: ob ka e.k.length e.k :: ob va e.v.length e.v :: .star L2 :: H) (by exact ent) ?_
          refine (stars_get hzj).trans ?_
          refine Ent.tl (Ent.tl ?_)
          have h := stars_put (f := oKVs) (s := y) (F := os) (i := j) (H := .star L2 :: H) (by omega)
          rw [hyo] at h
          refine Ent.trans (H' := ob ka e.k.length e.k :: ob va e.v.length e.v :: stars oKVs (os.eraseIdx j) :: .star L2 :: H) ?_ h
          show Ent (stars oKVs (os.eraseIdx j) :: ob ka e.k.length e.k :: ob va e.v.length e.v :: .star L2 :: H) _
          exact entq
      · have hsn : snocP (os.map KV.p) e.p = os.map KV.p ++ [y.p] := by
          unfold snocP
          rw [hlast, hyp]
          simp only
          show (if z.k = e.k then _ else _) ++ _ = _
          rw [if_neg t2]
        refine sx ?_
        refine s_bsl [y] rfl rfl fun b64 => ?_
        refine s_app (xs := os) (ys := [y]) ?_ (hby := by simp only [List.length_cons, List.length_nil]; omega)
        intro a4 c4
        refine sx ?_
        refine s_again ⟨i + 1, a4, c4, os ++ [y]⟩ ⟨by simp only; omega, ?_⟩ (by simp only; omega) (he := ?_)
        · simp only
          rw [hnx, List.map_append, hsn]
          rfl
        · refine Ent.cons (by exact rm) ?_
          refine Ent.trans (H' := ob ka e.k.length e.k :: ob va e.v.length e.v :: stars oKVs os :: .star L2 :: H) (by exact ent) hsnoc
  obtain rfl : i = ms.length := by omega
  rw [List.take_of_length_le (by rw [hs]; simp)] at g2
  refine sx ?_
  exact s_ret1 rfl rfl ⟨oa, oc, os, s, rfl, hM, g2, rfl⟩
end Go.Sx

