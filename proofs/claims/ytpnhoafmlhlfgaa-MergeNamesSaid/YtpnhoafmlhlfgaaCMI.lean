/- Part of a proof: what entries and messages tell together, in plain words; the call of those ahead. -/
import Derived.Test.YtpnhoafmlhlfgaaCMH
namespace Go.Sx
open Go Go.Proofs
set_option maxRecDepth 10000
variable {w0 : World} {H : List Ck}
open Classical in
/-- What is there by messages, rising. -/
noncomputable def putsM (ms : List MD) : List Pp := if h : ∃ ps, IsMean ms ps then (h.choose.filter PD.put).map fun p => (p.key, p.v) else []
theorem putsM_eq {ms : List MD} {ps : List PD} (h : IsMean ms ps) : putsM ms = (ps.filter PD.put).map fun p => (p.key, p.v) := by
  have hx : ∃ ps, IsMean ms ps := ⟨ps, h⟩
  unfold putsM
  rw [dif_pos hx, IsMean.uniq hx.choose_spec h fun _ => rfl]
def ahP (all : Bool) (key : Bs) (k : Bs) : Bool := all || decide (cmp k key < 0)
def withL (sd : Bs → Bool) : List Pp → List Pp → List Pp
  | ps, [] => ps
  | ps, e :: r => ps.takeWhile (fun p => ahP false e.1 p.1) ++ ((if sd e.1 = true then [] else [e]) ++ withL sd (ps.dropWhile fun p => ahP false e.1 p.1) r)
def tW (all : Bool) (key : Bs) (ps : List KV) : List KV := ps.takeWhile fun p => ahP all key p.k
def dW (all : Bool) (key : Bs) (ps : List KV) : List KV := ps.dropWhile fun p => ahP all key p.k
theorem tW_p (all : Bool) (key : Bs) (ps : List KV) : (tW all key ps).map KV.p = (ps.map KV.p).takeWhile fun p => ahP all key p.1 := by
  unfold tW
  rw [List.takeWhile_map]
  rfl
theorem dW_p (all : Bool) (key : Bs) (ps : List KV) : (dW all key ps).map KV.p = (ps.map KV.p).dropWhile fun p => ahP all key p.1 := by
  unfold dW
  rw [List.dropWhile_map]
  rfl
theorem tW_go {all : Bool} {key : Bs} {e : KV} {r : List KV} (h : ahP all key e.k = true) : tW all key (e :: r) = e :: tW all key r ∧ dW all key (e :: r) = dW all key r := by simp [tW, dW, h]
theorem tW_no {all : Bool} {key : Bs} {e : KV} {r : List KV} (h : ahP all key e.k = false) : tW all key (e :: r) = [] ∧ dW all key (e :: r) = e :: r := by simp [tW, dW, h]
structure AhI where
  j : Nat
  K : List Ck
  a : Option Addr
  c : Nat
  ps : List KV
set_option maxHeartbeats 4000000 in
theorem ahead_s {ll : Nat} {φ : Nat → List Ck → Prop} {fin : List Ck → Prop} {L : List Pp} {g : Ck}
    (hy : ∀ (i : Nat) (x : KV) (K T E : List Ck), L[i]? = some x.p → φ i K → T = oKVs x → YldS Try.prog w0 (.star T :: .star K :: g :: E) ll #[.slice x.ka x.k.length x.kc, .slice x.va x.v.length x.vc] (fun v K' => ∃ K2, (v = .bool true ∧ φ (i + 1) K2 ∨ v = .bool false ∧ fin K2) ∧ K' = .star K2 :: g :: E))
    {b3 b4 : Nat} {a oa ka : Option Addr} {c oc kc : Nat} {os ps : List KV} {j : Nat} {K R : List Ck} {M : List Pp} {all : Bool} {key : Bs}
    (hsf : Sf w0 oa oc os a c ps) (hφ : φ j K) (hL : L.drop j = (tW all key ps).map KV.p ++ M) (hk : RBy w0 R ka kc key) :
    FnS Try.prog w0 (.star K :: .hb b3 67 [yv ll] :: .hb b4 26 [.slice a ps.length c] :: ol 36 oa oc os :: stars oKVs ps :: g :: R) 47 #[.slice ka key.length kc, .bool all, .pointer (some ⟨b4, 0, none⟩), .pointer (some ⟨b3, 0, none⟩)]
      (fun v H' => ∃ K2, (v = .bool true ∧ φ (j + (tW all key ps).length) K2 ∧ ∃ a' c' ps', ps' = dW all key ps ∧ Sf w0 oa oc os a' c' ps' ∧ H' = .star K2 :: .hb b3 67 [yv ll] :: .hb b4 26 [.slice a' ps'.length c'] :: ol 36 oa oc os :: stars oKVs ps' :: g :: R) ∨ (v = .bool false ∧ fin K2 ∧ H' = .star K2 :: g :: R)) := by
  refine fns_enter Try.func47 rfl rfl rfl ?_
  refine sx ?_
  refine s_loop (fun q : AhI => [(0, .slice ka key.length kc), (1, .bool all), (2, .pointer (some ⟨b4, 0, none⟩)), (3, .pointer (some ⟨b3, 0, none⟩))]) (fun q => .star q.K :: .hb b3 67 [yv ll] :: .hb b4 26 [.slice q.a q.ps.length q.c] :: ol 36 oa oc os :: stars oKVs q.ps :: g :: R) (fun q => Sf w0 oa oc os q.a q.c q.ps ∧ φ q.j q.K ∧ L.drop q.j = (tW all key q.ps).map KV.p ++ M ∧ dW all key q.ps = dW all key ps ∧ q.j + (tW all key q.ps).length = j + (tW all key ps).length) (fun q => q.ps.length) ⟨j, K, a, c, ps⟩ ⟨hsf, hφ, hL, rfl, rfl⟩ ?_
  rintro ⟨i, K1, xa, xc, xs⟩ ⟨g1, g2, g3, g4, g5⟩
  simp only at g1 g2 g3 g4 g5 ⊢
  refine s_kn (Kn.sl (xs := xs) (g1.sl.ent (Ent.cons (by exact rm) Ent.nil))) fun l1 => ?_
  simp only [maxLen] at l1
  cases xs with
  | nil =>
    refine sx ?_
    exact s_ret1 rfl rfl ⟨K1, .inl ⟨rfl, by rw [← g5]; exact g2, xa, xc, [], by rw [← g4]; rfl, g1, rfl⟩⟩
  | cons e r =>
    have hl1 : 1 ≤ (e :: r).length := by simp
    have hsl : RSl w0 (ol 36 oa oc os :: stars oKVs (e :: r) :: g :: R) xa xc (e :: r) := g1.sl.ent (Ent.cons (by exact rm) Ent.nil)
    have hek : RBy w0 (stars oKVs (e :: r) :: g :: R) e.ka e.kc e.k := (REe.st (by simp)).k
    have hkk : RBy w0 (stars oKVs (e :: r) :: g :: R) ka kc key := hk.tl.tl
    refine sx ?_
    refine s_rw (t := 11) (v' := .bool true) rfl (by simp) ?_
    have hLi' : ahP all key e.k = true → L[i]? = some e.p := fun h => by
      have h2 := List.getElem?_drop (xs := L) (i := i) (j := 0)
      rw [g3, (tW_go h).1] at h2
      simpa using h2.symm
    cases all with
    | true =>
      have hah : ahP true key e.k = true := rfl
      have hLi := hLi' hah
      · refine sx ?_
        refine s_alloc fun b7 => ?_
        refine sx ?_
        refine s_yS rfl rfl rfl (y_slF (k := 1) rfl rfl (by omega)) ?_
        refine sx ?_
        refine s_yld rfl rfl ((hy i e K1 _ (.hb b7 36 (Cel.f e) :: .hb b3 67 [yv ll] :: .hb b4 26 [.slice (sl xa xc 1 2) r.length (xc - 1)] :: ol 36 oa oc os :: stars oKVs r :: R) hLi g2 rfl).ent ?_) ?_
        · refine Ent.trans (H' := stars oKVs (e :: r) :: .star K1 :: g :: .hb b7 36 (Cel.f e) :: .hb b3 67 [yv ll] :: .hb b4 26 [.slice (sl xa xc 1 2) r.length (xc - 1)] :: ol 36 oa oc os :: R) (by exact ent) ?_
          refine Ent.trans (H' := ob e.ka e.kc e.k :: ob e.va e.vc e.v :: stars oKVs r :: .star K1 :: g :: .hb b7 36 (Cel.f e) :: .hb b3 67 [yv ll] :: .hb b4 26 [.slice (sl xa xc 1 2) r.length (xc - 1)] :: ol 36 oa oc os :: R) stars_cons ?_
          refine ent_oKVs (by exact rm) (by exact rm) ?_
          exact entq
        rintro _ _ ⟨K2, hK2, rfl⟩
        refine ⟨chk_seq, ?_⟩
        rcases hK2 with ⟨rfl, hK2⟩ | ⟨rfl, hK2⟩
        · refine sx ?_
          refine s_again ⟨i + 1, K2, sl xa xc 1 2, xc - 1, r⟩ ⟨⟨g1.sl.drop (j := 1) (by simp), fun y h => g1.mem y (List.mem_cons_of_mem _ h)⟩, hK2, ?_, ?_, ?_⟩ (by simp)
          · simp only
            rw [← List.drop_drop, g3, (tW_go hah).1]
            rfl
          · rw [← g4, (tW_go hah).2]
          · simp only
            rw [← g5, (tW_go hah).1, List.length_cons]
            omega
        · refine sx ?_
          exact s_ret1 rfl rfl ⟨K2, .inr ⟨rfl, hK2, rfl⟩⟩
    | false =>
      refine sx ?_
      refine s_callV rfl (compare_s (xs := e.k) (ys := key) (by exact rby) (by exact rby)) ?_
      refine sx ?_
      refine s_if rfl (fun t2 => ?_) (fun t2 => ?_)
      · have hah : ahP false key e.k = true := by simp [ahP, t2]
        have hLi := hLi' hah
        refine sx ?_
        refine s_alloc fun b7 => ?_
        refine sx ?_
        refine s_yS rfl rfl rfl (y_slF (k := 1) rfl rfl (by omega)) ?_
        refine sx ?_
        refine s_yld rfl rfl ((hy i e K1 _ (.hb b7 36 (Cel.f e) :: .hb b3 67 [yv ll] :: .hb b4 26 [.slice (sl xa xc 1 2) r.length (xc - 1)] :: ol 36 oa oc os :: stars oKVs r :: R) hLi g2 rfl).ent ?_) ?_
        · refine Ent.trans (H' := stars oKVs (e :: r) :: .star K1 :: g :: .hb b7 36 (Cel.f e) :: .hb b3 67 [yv ll] :: .hb b4 26 [.slice (sl xa xc 1 2) r.length (xc - 1)] :: ol 36 oa oc os :: R) (by exact ent) ?_
          refine Ent.trans (H' := ob e.ka e.kc e.k :: ob e.va e.vc e.v :: stars oKVs r :: .star K1 :: g :: .hb b7 36 (Cel.f e) :: .hb b3 67 [yv ll] :: .hb b4 26 [.slice (sl xa xc 1 2) r.length (xc - 1)] :: ol 36 oa oc os :: R) stars_cons ?_
          refine ent_oKVs (by exact rm) (by exact rm) ?_
          exact entq
        rintro _ _ ⟨K2, hK2, rfl⟩
        refine ⟨chk_seq, ?_⟩
        rcases hK2 with ⟨rfl, hK2⟩ | ⟨rfl, hK2⟩
        · refine sx ?_
          refine s_again ⟨i + 1, K2, sl xa xc 1 2, xc - 1, r⟩ ⟨⟨g1.sl.drop (j := 1) (by simp), fun y h => g1.mem y (List.mem_cons_of_mem _ h)⟩, hK2, ?_, ?_, ?_⟩ (by simp)
          · simp only
            rw [← List.drop_drop, g3, (tW_go hah).1]
            rfl
          · rw [← g4, (tW_go hah).2]
          · simp only
            rw [← g5, (tW_go hah).1, List.length_cons]
            omega
        · refine sx ?_
          exact s_ret1 rfl rfl ⟨K2, .inr ⟨rfl, hK2, rfl⟩⟩
      · have hah : ahP false key e.k = false := by simp [ahP, t2]
        refine sx ?_
        refine s_ret1 rfl rfl ⟨K1, .inl ⟨rfl, ?_, xa, xc, e :: r, ?_, g1, rfl⟩⟩
        · rw [← g5, (tW_no hah).1]
          exact g2
        · rw [← g4, (tW_no hah).2]
end Go.Sx
