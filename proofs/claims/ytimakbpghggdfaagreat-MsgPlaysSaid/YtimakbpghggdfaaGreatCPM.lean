/- Part of a proof: the document's Cuts: where what messages say may change, and which message decides; walked. -/
import Derived.Test.YtimakbpghggdfaaGreatCPL
import Derived.Test.YtimakbpghggdfaaGreatCYA
namespace Go.Sx
open Go Go.Proofs
set_option maxRecDepth 10000
variable {w0 : World} {H : List Ck}
/-- The edges of what a message says. -/
def edM (m : MD) : List Bs := if emR (saidR m) = true then [] else [(saidR m).1, (saidR m).2.1]
def edL (l : List MD) : List Bs := l.flatMap edM
theorem edL_snoc (l : List MD) (m : MD) : edL (l ++ [m]) = edL l ++ edM m := by simp [edL]
/-- The number of the last message, of those from i on, that says something of a key; -1: none does. -/
def ByI (l : List MD) (i : Nat) (key : Bs) (b : Int) : Prop := (b = -1 ∧ ∀ j m, i ≤ j → l[j]? = some m → ¬ hasB (saidR m) key = true) ∨ ∃ j : Nat, ∃ m, b = (j : Int) ∧ i ≤ j ∧ l[j]? = some m ∧ hasB (saidR m) key = true ∧ ∀ j' m', j < j' → l[j']? = some m' → ¬ hasB (saidR m') key = true
theorem ByI.top (l : List MD) (key : Bs) : ByI l l.length key (-1) := .inl ⟨rfl, fun j m h hm => by have := (List.getElem?_eq_some_iff.1 hm).1; omega⟩
theorem ByI.keep {l : List MD} {i : Nat} {key : Bs} {b : Int} {m : MD} (h : ByI l (i + 1) key b) (hm : l[i]? = some m) (hn : b ≠ -1 ∨ ¬ hasB (saidR m) key = true) : ByI l i key b := by
  rcases h with ⟨h1, h2⟩ | ⟨j, m', h1, h2, h3⟩
  · have hn := hn.resolve_left (fun g => g h1)
    refine .inl ⟨h1, fun j x hj hx => ?_⟩
    rcases Nat.eq_or_lt_of_le hj with e | g
    · subst e
      rw [hm] at hx
      cases hx
      exact hn
    · exact h2 j x g hx
  · exact .inr ⟨j, m', h1, by omega, h3⟩
theorem ByI.new {l : List MD} {i : Nat} {key : Bs} {m : MD} (h : ByI l (i + 1) key (-1)) (hm : l[i]? = some m) (hh : hasB (saidR m) key = true) : ByI l i key (i : Int) := by
  rcases h with ⟨_, h2⟩ | ⟨j, m', h1, _⟩
  · exact .inr ⟨i, m, rfl, Nat.le_refl _, hm, hh, fun j x hj hx => h2 j x hj hx⟩
  · omega
/-- Of which stretches nothing is known. -/
def UkB (bs : List Int) (n t : Nat) : Prop := t = n ∨ (t < n ∧ bs[t]? = some (-1))
theorem NxI.mark {nx : List Int} {n i : Nat} {U : Nat → Prop} (h : NxI nx n U) (hi : i < n) : NxI (nx.set i ((i + 1 : Nat) : Int)) n (fun t => U t ∧ t ≠ i) := by
  have hl := h.len
  refine ⟨by rw [List.length_set, hl], ⟨h.top, by omega⟩, fun j hj hu => ?_, fun j hj hu => ?_⟩
  · rw [List.getElem?_set_ne hu.2.symm]
    exact h.self j hj hu.1
  · by_cases g : i = j
    · subst g
      exact ⟨i + 1, by rw [List.getElem?_set_self (by omega)], by omega, by omega, fun t h1 h2 => by rintro ⟨_, h3⟩; omega⟩
    · rw [List.getElem?_set_ne g]
      obtain ⟨e, h1, h2, h3, h4⟩ := h.skip j hj (fun hx => hu ⟨hx, fun e => g e.symm⟩)
      exact ⟨e, h1, h2, h3, fun t h5 h6 hx => h4 t h5 h6 hx.1⟩
theorem NxI.congr {nx : List Int} {n : Nat} {U V : Nat → Prop} (h : NxI nx n U) (he : ∀ t, t ≤ n → (U t ↔ V t)) : NxI nx n V := by
  refine ⟨h.len, (he n (Nat.le_refl _)).1 h.top, fun i hi hv => h.self i hi ((he i hi).2 hv), fun i hi hv => ?_⟩
  obtain ⟨j, h1, h2, h3, h4⟩ := h.skip i hi (fun hu => hv ((he i hi).1 hu))
  exact ⟨j, h1, h2, h3, fun t h5 h6 hv => h4 t h5 h6 ((he t (by omega)).2 hv)⟩
theorem RiB.lt {ks : List SB} (h : RiB ks) {i j : Nat} {a b : SB} (hij : i < j) (ha : ks[i]? = some a) (hb : ks[j]? = some b) : cmp a.xs b.xs < 0 := by
  obtain ⟨h1, e1⟩ := List.getElem?_eq_some_iff.1 ha
  obtain ⟨h2, e2⟩ := List.getElem?_eq_some_iff.1 hb
  have := List.pairwise_iff_getElem.1 h i j h1 h2 hij
  rw [e1, e2] at this
  exact this
/-- Where a key of the list is. -/
theorem plA_at {ks : List SB} (h : RiB ks) {j : Nat} {s : SB} (hs : ks[j]? = some s) : PlA ks s.xs j := by
  refine ⟨Nat.le_of_lt (List.getElem?_eq_some_iff.1 hs).1, fun i x hi hx => h.lt hi hx hs, fun i x hi hx => ?_⟩
  rcases Nat.eq_or_lt_of_le hi with e | g
  · subst e
    rw [hs] at hx
    cases hx
    rw [cmp_self]
    exact Int.le_refl _
  · have := h.lt g hs hx
    have := cmp_anti s.xs x.xs
    omega
theorem plA_ex {ks : List SB} (h : RiB ks) {k : Bs} (hk : k ∈ ks.map SB.xs) : ∃ j s, ks[j]? = some s ∧ s.xs = k ∧ PlA ks k j := by
  obtain ⟨s, hs, rfl⟩ := List.mem_map.1 hk
  obtain ⟨j, hj⟩ := List.getElem?_of_mem hs
  exact ⟨j, s, hj, rfl, plA_at h hj⟩
structure CuI where
  i : Nat
  a : Option Addr
  c : Nat
  ks : List SB
  L : List Ck
/-- What Cuts comes to. -/
structure CutR (w0 : World) (ms : List MD) (ka : Option Addr) (kc : Nat) (ks : List SB) (ba : Option Addr) (bc : Nat) (bs : List Int) (L H : List Ck) : Prop where
  up : RiB ks
  len : bs.length = ks.length
  lim : ks.length ≤ 2 * ms.length
  key : ∀ key, key ∈ ks.map SB.xs ↔ key ∈ edL ms
  by_ : ∀ (t : Nat) (s : SB), ks[t]? = some s → ∃ b, bs[t]? = some b ∧ ByI ms 0 s.xs b
  rk : RSl w0 (.star L :: H) ka kc ks
  rs : ∀ s ∈ ks, RBy w0 (.star L :: H) s.a s.c s.xs
  rb : RSl w0 (.star L :: H) ba bc bs
set_option maxHeartbeats 8000000 in
theorem rcuts_s {a : Option Addr} {c : Nat} {ms : List Mg} (hm : RMs w0 H a c ms) (hl : ms.length ≤ 137438953472) (hz : ∀ m ∈ ms, m.lo.length ≤ 140737488355327 ∧ m.hi.length ≤ 140737488355328) :
    FnS Tryz.prog w0 H 125 #[.slice a ms.length c] (fun v H' => ∃ ka kc ks ba bc bs L, v = .tuple #[.slice ka (ks : List SB).length kc, .slice ba (bs : List Int).length bc] ∧ H' = .star L :: H ∧ CutR w0 (ms.map Mg.d) ka kc ks ba bc bs L H) := by
  refine fns_enter Tryz.func125 rfl rfl rfl ?_
  have hsl := hm.sl
  refine s_kn (Kn.sl hsl) fun ⟨l1, l2⟩ => ?_
  simp only [maxLen] at l2
  refine sx ?_
  refine s_loop (fun q : CuI => [(0, .slice a ms.length c), (4, .slice q.a q.ks.length q.c), (5, .int .i64 q.i)]) (fun q => ol 24 q.a q.c q.ks :: .star q.L :: H) (fun q => q.i ≤ ms.length ∧ q.ks.length ≤ 2 * q.i ∧ q.ks.map SB.xs = edL ((ms.map Mg.d).take q.i) ∧ ∀ s ∈ q.ks, RBy w0 (.star q.L :: H) s.a s.c s.xs) (fun q => ms.length - q.i) ⟨0, none, 0, [], []⟩ ⟨Nat.zero_le _, Nat.zero_le _, by simp [edL], fun s h => by cases h⟩ ?_ (he := Ent.nilS.trans (Ent.head Ent.star0))
  rintro ⟨i, oa, oc, ks, L⟩ ⟨g1, g2, g3, g4⟩
  simp only at g1 g2 g3 g4 ⊢
  refine sx ?_
  refine s_if rfl (fun t1 => ?_) (fun t1 => ?_)
  · have t1 : (i : Int) < (ms.length : Int) := t1
    obtain ⟨m, hmi⟩ := get_lt ms i (by omega)
    have hmr := hm.el m (List.mem_of_getElem? hmi)
    obtain ⟨z1, z2⟩ := hz m (List.mem_of_getElem? hmi)
    have hmd := get_map (f := Mg.d) hmi
    refine sx ?_
    refine s_call rfl (rrange7_s (H := ol 24 oa oc ks :: .star L :: H) hmr.tl.tl z1 z2) ?_
    rintro _ _ ⟨r, L1, rfl, hrd, rfl, hrr⟩
    refine ⟨chk_seq, ?_⟩
    have hrg : ∀ H0, RRg w0 (.star L1 :: (H0 ++ H)) r := fun H0 => hrr _ (hmr.ent (Ent.dropL H0))
    refine sx ?_
    refine s_alloc fun b6 => ?_
    refine sx ?_
    have hst : ∀ {R : List Ck}, Ent (.star L1 :: .star L :: R) (.star (.star L1 :: L) :: R) := Ent.star (Ent.head (Ent.open Ent.refl))
    have hold : ∀ s ∈ ks, RBy w0 (.star (.star L1 :: L) :: H) s.a s.c s.xs := fun s hs => (g4 s hs).ent (Ent.open (Ent.tl (Ent.star Ent.refl)))
    have hnew : RRg w0 (.star (.star L1 :: L) :: H) r := (hrg L).ent (Ent.open Ent.refl)
    have hem : emR r.d = emR (saidR m.d) := by rw [hrd, emR_fo]
    have hrx := hrg [.hb b6 53 r.cells, ol 24 oa oc ks, .star L]
    have hrq : RRg w0 (.hb b6 53 r.cells :: .star L1 :: ol 24 oa oc ks :: .star L :: H) r := hrx.ent (Ent.perm (.swap _ _ _))
    refine s_callV rfl (qempty_s hrq) ?_
    refine sx ?_
    rw [hem]
    refine s_cond rfl (fun t2 => ?_) (fun t2 => ?_)
    · have t2 : ¬ emR (saidR m.d) = true := by simpa using t2
      have hrd2 : r.d = saidR m.d := by rw [hrd]; exact (said_form m.d).resolve_right t2
      have hed : edM m.d = [r.lo, r.hi] := by
        unfold edM
        rw [if_neg t2, ← hrd2]
      refine sx ?_
      refine s_bsl [(⟨r.la, r.lc, r.lo⟩ : SB), ⟨r.ha, r.hc, r.hi⟩] rfl rfl fun b36 => ?_
      refine s_app (xs := ks) (ys := [(⟨r.la, r.lc, r.lo⟩ : SB), ⟨r.ha, r.hc, r.hi⟩]) ?_ (hby := by simp only [List.length_cons, List.length_nil]; omega)
      intro a4 c4
      refine sx ?_
      refine s_again ⟨i + 1, a4, c4, ks ++ [(⟨r.la, r.lc, r.lo⟩ : SB), ⟨r.ha, r.hc, r.hi⟩], .star L1 :: L⟩ ⟨by simp only; omega, by simp only [List.length_append, List.length_cons, List.length_nil]; omega, ?_, ?_⟩ (by simp only; omega) (he := ?_)
      · simp only
        rw [snocT hmd, edL_snoc, List.map_append, g3, hed]
        rfl
      · intro s hs
        simp only at hs ⊢
        rcases List.mem_append.1 hs with hs | hs
        · exact hold s hs
        · simp only [List.mem_cons, List.not_mem_nil, or_false] at hs
          rcases hs with rfl | rfl
          · exact hnew.lo
          · exact hnew.hi
      · refine Ent.cons (by exact rm) ?_
        exact Ent.trans (H' := .star L1 :: .star L :: H) (by exact ent) hst
    · have t2 : emR (saidR m.d) = true := by simpa using t2
      refine sx ?_
      refine s_again ⟨i + 1, oa, oc, ks, .star L1 :: L⟩ ⟨by simp only; omega, by simp only; omega, ?_, hold⟩ (by simp only; omega) (he := ?_)
      · simp only
        rw [snocT hmd, edL_snoc, g3]
        unfold edM
        rw [if_pos t2, List.append_nil]
      · refine Ent.cons (by exact rm) ?_
        exact Ent.trans (H' := .star L1 :: .star L :: H) (by exact ent) hst
  obtain rfl : i = ms.length := by omega
  rw [List.take_of_length_le (by simp)] at g3
  refine sx ?_
  refine s_call rfl (rsorted_s ks.length (H := ol 24 oa oc ks :: .star L :: H) RSl.hd (fun s hs => (g4 s hs).tl) (Nat.le_refl _) (by omega)) ?_
  rintro _ _ ⟨ka, kc, os, Ls, rfl, hup, hkey, hmem, hln, rfl, hrk⟩
  refine ⟨chk_seq, ?_⟩
  have hkey' : ∀ key, key ∈ os.map SB.xs ↔ key ∈ edL (ms.map Mg.d) := fun key => by rw [hkey, g3]
  obtain ⟨LL, hLL⟩ : ∃ LL : List Ck, LL = [.star Ls, ol 24 oa oc ks, .star L] := ⟨_, rfl⟩
  have hsh : ∀ {R : List Ck}, Ent (.star Ls :: ol 24 oa oc ks :: .star L :: R) (.star LL :: R) := by rw [hLL]; exact Ent.star Ent.refl
  have hop : ∀ {R : List Ck}, Ent (.star LL :: R) (.star Ls :: ol 24 oa oc ks :: .star L :: R) := by rw [hLL]; exact Ent.open Ent.refl
  have hrk2 : RSl w0 (.star LL :: H) ka kc os := hrk.ent hop
  have hrs2 : ∀ s ∈ os, RBy w0 (.star LL :: H) s.a s.c s.xs := fun s hs => ((g4 s (hmem s hs)).tl.tl (d := .star Ls)).ent hop
  have hlim : os.length ≤ 2 * ms.length := by omega
  refine s_entL (.star LL :: H) hsh ?_
  clear hLL hsh hop hkey hmem hrk g4 g3 g2 g1 hln t1
  obtain ⟨n, hn⟩ : ∃ n, n = os.length := ⟨_, rfl⟩
  refine sx ?_
  refine s_make (α := Int) (c := os.length) rfl rfl ⟨by omega, by omega⟩ fun bb => ?_
  refine sx ?_
  refine s_rw (t := 45) (v' := .int .i64 ((os.length + 1 : Nat) : Int)) rfl (ci (by omega)) ?_
  refine s_make (α := Int) (c := os.length + 1) rfl rfl ⟨by omega, by omega⟩ fun bn => ?_
  refine sx ?_
  rw [← hn]
  refine s_loop (fun q : Nat × List Int × List Int => [(0, .slice a ms.length c), (4, .slice ka n kc), (8, .slice (some bb) n n), (9, .slice (some bn) (n + 1) (n + 1)), (10, .int .i64 q.1)]) (fun q => ol 3 (some bn) (n + 1) q.2.2 :: ol 3 (some bb) n q.2.1 :: .star LL :: H) (fun q => q.1 ≤ n ∧ q.2.1.length = n ∧ q.2.2.length = n + 1 ∧ (∀ t, t < q.1 → q.2.1[t]? = some (-1)) ∧ (∀ t : Nat, t < q.1 → q.2.2[t]? = some (t : Int))) (fun q => n - q.1) (0, List.replicate n 0, List.replicate (n + 1) 0) ⟨Nat.zero_le _, by simp, by simp, fun t h => by omega, fun t h => by omega⟩ ?_
  rintro ⟨i, bs, nx⟩ ⟨g1, g2, g3, g4, g5⟩
  simp only at g1 g2 g3 g4 g5 ⊢
  refine sx ?_
  refine s_if rfl (fun t1 => ?_) (fun t1 => ?_)
  · have t1 : (i : Int) < (n : Int) := t1
    refine s_rwC (t := 8) (v' := .slice (some bb) bs.length n) rfl (by rw [g2]) ?_
    refine s_rwC (t := 9) (v' := .slice (some bn) nx.length (n + 1)) rfl (by rw [g3]) ?_
    refine sx ?_
    refine s_set1g (i := i) (y := (-1 : Int)) rfl rfl (by exact at_) rfl (by omega) ?_
    refine sx ?_
    refine s_set1g (i := i) (y := (i : Int)) rfl rfl (by exact at_) rfl (by omega) ?_
    refine sx ?_
    refine s_rwQ (t := 8) (v' := .slice (some bb) n n) rfl (by rw [g2]) ?_
    refine s_rwQ (t := 9) (v' := .slice (some bn) (n + 1) (n + 1)) rfl (by rw [g3]) ?_
    refine s_again (i + 1, bs.set i (-1), nx.set i (i : Int)) ⟨by simp only; omega, by simp only [List.length_set]; exact g2, by simp only [List.length_set]; exact g3, fun t ht => ?_, fun t ht => ?_⟩ (by simp only; omega)
    · simp only at ht ⊢
      by_cases h : i = t
      · subst h; rw [List.getElem?_set_self (by omega)]
      · rw [List.getElem?_set_ne h]; exact g4 t (by omega)
    · simp only at ht ⊢
      by_cases h : i = t
      · subst h; rw [List.getElem?_set_self (by omega)]
      · rw [List.getElem?_set_ne h]; exact g5 t (by omega)
  obtain rfl : n = i := by omega
  refine s_rwC (t := 9) (v' := .slice (some bn) nx.length (n + 1)) rfl (by rw [g3]) ?_
  refine sx ?_
  refine s_set1g (i := n) (y := (n : Int)) rfl rfl (by exact at_) rfl (by omega) ?_
  refine sx ?_
  refine s_rwC (t := 9) (v' := .slice (some bn) (n + 1) (n + 1)) rfl (by rw [g3]) ?_
  have hN0 : NxI (nx.set n (n : Int)) n (UkB bs n) := by
    refine ⟨by rw [List.length_set, g3], .inl rfl, fun t ht _ => ?_, fun t ht hu => ?_⟩
    · by_cases h : n = t
      · subst h; rw [List.getElem?_set_self (by omega)]
      · rw [List.getElem?_set_ne h]; exact g5 t (by omega)
    · exfalso
      rcases Nat.eq_or_lt_of_le ht with e | g
      · exact hu (.inl e)
      · exact hu (.inr ⟨g, g4 t g⟩)
  have hB0 : ∀ (t : Nat) (s : SB), os[t]? = some s → ∃ b, bs[t]? = some b ∧ ByI (ms.map Mg.d) ms.length s.xs b := fun t s hs => by
    have ht := (List.getElem?_eq_some_iff.1 hs).1
    refine ⟨-1, g4 t (by omega), ?_⟩
    have := ByI.top (ms.map Mg.d) s.xs
    rwa [List.length_map] at this
  have hnl : (nx.set n (n : Int)).length = n + 1 := by rw [List.length_set, g3]
  generalize nx.set n (n : Int) = nx0 at hN0 hnl
  clear g1 g3 g4 g5 t1
  refine s_loop (fun q : Nat × List Int × List Int => [(0, .slice a ms.length c), (4, .slice ka n kc), (8, .slice (some bb) n n), (9, .slice (some bn) (n + 1) (n + 1)), (11, .int .i64 ((q.1 : Int) - 1))]) (fun q => ol 3 (some bn) (n + 1) q.2.2 :: ol 3 (some bb) n q.2.1 :: .star LL :: H) (fun q => q.1 ≤ ms.length ∧ q.2.1.length = n ∧ q.2.2.length = n + 1 ∧ NxI q.2.2 n (UkB q.2.1 n) ∧ (∀ (t : Nat) (s : SB), os[t]? = some s → ∃ b, q.2.1[t]? = some b ∧ ByI (ms.map Mg.d) q.1 s.xs b)) (fun q => q.1) (ms.length, bs, nx0) ⟨Nat.le_refl _, g2, hnl, hN0, hB0⟩ ?_
  clear hN0 hB0 hnl g2 nx0 bs
  rintro ⟨k, bs, nx⟩ ⟨g1, g2, g3, g4, g5⟩
  simp only at g1 g2 g3 g4 g5 ⊢
  refine sx ?_
  refine s_if rfl (fun t1 => ?_) (fun t1 => ?_)
  · have t1 : (0 : Int) ≤ (k : Int) - 1 := t1
    obtain ⟨j, rfl⟩ : ∃ j, k = j + 1 := ⟨k - 1, by omega⟩
    refine s_rwC (t := 11) (v' := .int .i64 (j : Int)) rfl (ci (by omega)) ?_
    obtain ⟨m, hmi⟩ := get_lt ms j (by omega)
    have hmr := hm.el m (List.mem_of_getElem? hmi)
    obtain ⟨z1, z2⟩ := hz m (List.mem_of_getElem? hmi)
    have hmd := get_map (f := Mg.d) hmi
    refine sx ?_
    refine s_call rfl (rrange7_s (H := ol 3 (some bn) (n + 1) nx :: ol 3 (some bb) n bs :: .star LL :: H) hmr.tl.tl.tl z1 z2) ?_
    rintro _ _ ⟨r, L1, rfl, hrd, rfl, hrr⟩
    refine ⟨chk_seq, ?_⟩
    have hrg : ∀ H0, RRg w0 (.star L1 :: (H0 ++ H)) r := fun H0 => hrr _ (hmr.ent (Ent.dropL H0))
    refine sx ?_
    refine s_alloc fun b12 => ?_
    refine sx ?_
    have hem : emR r.d = emR (saidR m.d) := by rw [hrd, emR_fo]
    have hrq : RRg w0 (.hb b12 53 r.cells :: .star L1 :: ol 3 (some bn) (n + 1) nx :: ol 3 (some bb) n bs :: .star LL :: H) r := (hrg [.hb b12 53 r.cells, ol 3 (some bn) (n + 1) nx, ol 3 (some bb) n bs, .star LL]).ent (Ent.perm (.swap _ _ _))
    refine s_callV rfl (qempty_s hrq) ?_
    refine sx ?_
    rw [hem]
    refine s_cond rfl (fun t2 => ?_) (fun t2 => ?_)
    · refine sx ?_
      refine s_again (j, bs, nx) ⟨by simp only; omega, g2, g3, g4, fun t s hs => ?_⟩ (by simp only; omega)
      obtain ⟨b, h1, h2⟩ := g5 t s hs
      exact ⟨b, h1, h2.keep hmd (.inr (has_em t2))⟩
    have t2 : ¬ emR (saidR m.d) = true := by simpa using t2
    have hrd2 : r.d = saidR m.d := by rw [hrd]; exact (said_form m.d).resolve_right t2
    have hem2 : m.d ∈ ms.map Mg.d := List.mem_of_getElem? hmd
    have hed : edM m.d = [r.lo, r.hi] := by
      unfold edM
      rw [if_neg t2, ← hrd2]
    have hin : ∀ key ∈ edM m.d, key ∈ os.map SB.xs := fun key h => (hkey' key).2 (List.mem_flatMap.2 ⟨m.d, hem2, h⟩)
    obtain ⟨pl, sl', hsl1, hsl2, hpl⟩ := plA_ex hup (hin r.lo (by rw [hed]; simp))
    obtain ⟨ph, sh, hsh1, hsh2, hph⟩ := plA_ex hup (hin r.hi (by rw [hed]; simp))
    have hfin : r.all = false := by
      have := said_fin m.d
      rw [← hrd2] at this
      exact this
    have hhas : ∀ (t : Nat) (s : SB), os[t]? = some s → (hasB (saidR m.d) s.xs = true ↔ pl ≤ t ∧ t < ph) := fun t s hs => by
      rw [← hrd2, hasB_iff]
      have e1 : r.d.1 = r.lo := rfl
      have e2 : r.d.2.1 = r.hi := rfl
      have e3 : r.d.2.2 = false := hfin
      rw [e1, e2, e3]
      simp only [Bool.false_eq_true, false_or]
      constructor
      · rintro ⟨h1, h2⟩
        refine ⟨?_, ?_⟩
        · rcases Nat.lt_or_ge t pl with g | g
          · have := hpl.lo t s g hs
            have := cmp_anti s.xs r.lo
            omega
          · exact g
        · rcases Nat.lt_or_ge t ph with g | g
          · exact g
          · have := hph.hi t s g hs
            omega
      · rintro ⟨h1, h2⟩
        have h3 := hpl.hi t s h1 hs
        have h4 := hph.lo t s h2 hs
        have := cmp_anti s.xs r.lo
        exact ⟨by omega, h4⟩
    have hphn : ph ≤ n := by rw [hn]; exact hph.le
    have hpln : pl ≤ n := by rw [hn]; exact hpl.le
    have hrlo := hrq.lo
    have hrhi := hrq.hi
    refine sx ?_
    refine s_rw (t := 81) (v' := .slice ka os.length kc) rfl (by rw [hn]) ?_
    refine s_callV rfl (rplace_s (k := r.hi) hrk2.tl.tl.tl.tl (fun s hs => (hrs2 s hs).tl.tl.tl.tl) hrhi hph (by omega)) ?_
    refine sx ?_
    refine s_rw (t := 86) (v' := .slice ka os.length kc) rfl (by rw [hn]) ?_
    refine s_callV rfl (rplace_s (k := r.lo) hrk2.tl.tl.tl.tl (fun s hs => (hrs2 s hs).tl.tl.tl.tl) hrlo hpl (by omega)) ?_
    refine sx ?_
    refine s_entL (ol 3 (some bn) (n + 1) nx :: ol 3 (some bb) n bs :: .star LL :: H) (by exact ent) ?_
    refine s_rw (t := 85) (v' := .slice (some bn) nx.length (n + 1)) rfl (by rw [g3]) ?_
    refine s_call rfl (ropen_s (i := pl) g4 hpln) ?_
    rintro _ _ ⟨e, nx1, rfl, hfe, hN1, hl1, rfl⟩
    refine ⟨chk_seq, ?_⟩
    have kn : ∀ {B : List Int} {t : Nat} {b : Int}, t < n → B[t]? = some b → ¬ UkB B n t → b ≠ -1 := fun {B t b} h1 h2 h3 h4 => h3 (.inr ⟨h1, by rw [h2, h4]⟩)
    have hosn : ∀ {t : Nat} {s : SB}, os[t]? = some s → t < n := fun h => by rw [hn]; exact (List.getElem?_eq_some_iff.1 h).1
    refine sx ?_
    refine s_loop (fun q : Nat × List Int × List Int => [(0, .slice a ms.length c), (4, .slice ka n kc), (8, .slice (some bb) n n), (9, .slice (some bn) (n + 1) (n + 1)), (11, .int .i64 (j : Int)), (14, .int .i64 ph), (15, .int .i64 q.1)]) (fun q => ol 3 (some bn) (n + 1) q.2.2 :: ol 3 (some bb) n q.2.1 :: .star LL :: H)
      (fun q => pl ≤ q.1 ∧ q.1 ≤ n ∧ q.2.1.length = n ∧ q.2.2.length = n + 1 ∧ NxI q.2.2 n (UkB q.2.1 n) ∧ UkB q.2.1 n q.1 ∧ (∀ t, pl ≤ t → t < q.1 → ¬ UkB q.2.1 n t) ∧ (∀ (t : Nat) (s : SB), os[t]? = some s → ∃ b, q.2.1[t]? = some b ∧ (if pl ≤ t ∧ t < q.1 ∧ t < ph then ByI (ms.map Mg.d) j s.xs b else ByI (ms.map Mg.d) (j + 1) s.xs b)))
      (fun q => ph - q.1) (e, bs, nx1) ⟨hfe.le.1, hfe.le.2, g2, by rw [hl1, g3], hN1, hfe.is, hfe.no, ?_⟩ ?_
    · intro t s hs
      obtain ⟨b, h1, h2⟩ := g5 t s hs
      refine ⟨b, h1, ?_⟩
      split
      · rename_i hc
        exact h2.keep hmd (.inl (kn (hosn hs) h1 (hfe.no t hc.1 hc.2.1)))
      · exact h2
    clear g2 g3 g4 g5 hfe hN1 hl1 hrq hrlo hrhi
    rintro ⟨at', bs, nx⟩ ⟨q1, q2, q3, q4, q5, q6, q7, q8⟩
    simp only at q1 q2 q3 q4 q5 q6 q7 q8 ⊢
    refine sx ?_
    refine s_if rfl (fun t3 => ?_) (fun t3 => ?_)
    · have t3 : (at' : Int) < (ph : Int) := t3
      have hlt : at' < n := by omega
      have hm1 : bs[at']? = some (-1) := by
        rcases q6 with h | ⟨_, h⟩
        · omega
        · exact h
      have hU : ∀ t, t ≤ n → ((UkB bs n t ∧ t ≠ at') ↔ UkB (bs.set at' (j : Int)) n t) := fun t ht => by
        unfold UkB
        by_cases h : at' = t
        · subst h
          rw [List.getElem?_set_self (by omega)]
          constructor
          · rintro ⟨_, h⟩; exact absurd rfl h
          · rintro (h | ⟨_, h⟩)
            · omega
            · simp only [Option.some.injEq] at h
              omega
        · rw [List.getElem?_set_ne h]
          exact ⟨fun h => h.1, fun g => ⟨g, fun e => h e.symm⟩⟩
      refine s_rwC (t := 8) (v' := .slice (some bb) bs.length n) rfl (by rw [q3]) ?_
      refine s_rwC (t := 9) (v' := .slice (some bn) nx.length (n + 1)) rfl (by rw [q4]) ?_
      refine sx ?_
      refine s_set1g (i := at') (y := (j : Int)) rfl rfl (by exact at_) rfl (by omega) ?_
      refine sx ?_
      refine s_set1g (i := at') (y := ((at' + 1 : Nat) : Int)) rfl rfl (by exact at_) rfl (by omega) ?_
      refine sx ?_
      have hN2 := (q5.mark hlt).congr hU
      refine s_rw (t := 103) (v' := .slice (some bn) (nx.set at' ((at' + 1 : Nat) : Int)).length (n + 1)) rfl (by rw [List.length_set]) ?_
      refine s_call rfl (ropen_s (i := at' + 1) hN2 (by omega)) ?_
      rintro _ _ ⟨e2, nx2, rfl, hf2, hN3, hl2, rfl⟩
      refine ⟨chk_seq, ?_⟩
      refine sx ?_
      refine s_rwQ (t := 8) (v' := .slice (some bb) n n) rfl (by rw [q3]) ?_
      refine s_rwQ (t := 9) (v' := .slice (some bn) (n + 1) (n + 1)) rfl (by rw [q4]) ?_
      have he2 := hf2.le
      refine s_again (e2, bs.set at' (j : Int), nx2) ⟨by simp only; omega, by simp only; omega, by simp only [List.length_set]; exact q3, by simp only; rw [hl2, List.length_set]; exact q4, hN3, hf2.is, fun t h1 h2 => ?_, fun t s hs => ?_⟩ (by simp only; omega)
      · simp only at h2
        by_cases h3 : at' + 1 ≤ t
        · exact hf2.no t h3 h2
        · exact fun g => by
            have g2 := (hU t (by omega)).2 g
            by_cases h4 : t < at'
            · exact q7 t h1 h4 g2.1
            · exact g2.2 (by omega)
      · simp only
        obtain ⟨b, h1, h2⟩ := q8 t s hs
        have htn := hosn hs
        by_cases h3 : at' = t
        · subst h3
          rw [hm1] at h1
          obtain rfl := Option.some.inj h1
          refine ⟨(j : Int), List.getElem?_set_self (by omega), ?_⟩
          rw [if_neg (by omega)] at h2
          rw [if_pos ⟨q1, by omega, by omega⟩]
          exact h2.new hmd ((hhas at' s hs).2 ⟨q1, by omega⟩)
        · refine ⟨b, by rw [List.getElem?_set_ne h3]; exact h1, ?_⟩
          by_cases h4 : pl ≤ t ∧ t < e2 ∧ t < ph
          · rw [if_pos h4]
            by_cases h5 : t < at'
            · rw [if_pos ⟨h4.1, h5, h4.2.2⟩] at h2
              exact h2
            · rw [if_neg (by omega)] at h2
              refine h2.keep hmd (.inl (kn (B := bs.set at' (j : Int)) htn (by rw [List.getElem?_set_ne h3]; exact h1) (hf2.no t (by omega) h4.2.1)))
          · rw [if_neg h4]
            rw [if_neg (by omega)] at h2
            exact h2
    · have t3 : ¬ (at' : Int) < (ph : Int) := t3
      refine sx ?_
      refine s_again (j, bs, nx) ⟨by simp only; omega, q3, q4, q5, fun t s hs => ?_⟩ (by simp only; omega)
      obtain ⟨b, h1, h2⟩ := q8 t s hs
      refine ⟨b, h1, ?_⟩
      by_cases h3 : pl ≤ t ∧ t < ph
      · rw [if_pos ⟨h3.1, by omega, h3.2⟩] at h2
        exact h2
      · rw [if_neg (by omega)] at h2
        exact h2.keep hmd (.inr (fun g => h3 ((hhas t s hs).1 g)))
  · have t1 : ¬ (0 : Int) ≤ (k : Int) - 1 := t1
    obtain rfl : k = 0 := by omega
    refine sx ?_
    refine s_ret2 rfl rfl rfl ⟨ka, kc, os, some bb, n, bs, [ol 3 (some bb) n bs, .star LL], by rw [g2, hn], rfl, hup, by rw [g2, hn], by rw [List.length_map]; exact hlim, hkey', g5, ?_, ?_, ?_⟩ ?_
    · exact (hrk2.tl (d := ol 3 (some bb) n bs)).ent (Ent.open Ent.refl)
    · exact fun s hs => ((hrs2 s hs).tl (d := ol 3 (some bb) n bs)).ent (Ent.open Ent.refl)
    · exact (RSl.hd (w0 := w0) (E := 3) (a := some bb) (c := n) (xs := bs) (H := .star LL :: H)).ent (Ent.open Ent.refl)
    · exact Ent.tl (Ent.star (L := [ol 3 (some bb) n bs, .star LL]) Ent.refl)
end Go.Sx

