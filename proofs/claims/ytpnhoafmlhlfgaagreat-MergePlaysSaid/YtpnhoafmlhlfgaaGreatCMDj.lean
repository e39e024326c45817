/- Part of a proof: several parts of a walk, one behind the other. -/
import Derived.Test.YtpnhoafmlhlfgaaGreatCMR
import Derived.Test.YtpnhoafmlhlfgaaGreatCQBj
import Derived.Test.YtpnhoafmlhlfgaaGreatCMBj
import Derived.Test.YtpnhoafmlhlfgaaGreatCMC
namespace Go.Sx
open Go Go.Proofs
set_option maxRecDepth 10000
variable {w0 : World} {H : List Ck}
theorem gsameE_s {a a' : Option Addr} {c c' : Nat} {xs ys : List KV} (hx : RSl w0 H a c xs) (hxr : ∀ e ∈ xs, REe w0 H e) (hy : RSl w0 H a' c' ys) (hyr : ∀ e ∈ ys, REe w0 H e) : FnV Tryz.prog w0 H 14 #[.slice a xs.length c, .slice a' ys.length c'] (.bool (decide (xs.map KV.p = ys.map KV.p))) := by
  refine fns_enter Tryz.func14 rfl rfl rfl ?_
  refine s_kn (Kn.sl hx) fun l1 => s_kn (Kn.sl hy) fun l2 => ?_
  simp only [maxLen] at l1 l2
  refine sx ?_
  refine s_ifn rfl (fun t1 => ?_) (fun t1 => ?_)
  · refine sx ?_
    refine s_ret1 rfl rfl ⟨?_, rfl⟩
    rw [decide_eq_false (fun e => t1 (by have := congrArg List.length e; simp only [List.length_map] at this; rw [this]))]
  have hl : xs.length = ys.length := by omega
  refine sx ?_
  refine s_loop (fun i : Nat => [(0, .slice a xs.length c), (1, .slice a' ys.length c'), (5, .int .i64 i)]) (fun _ => H) (fun i => i ≤ xs.length ∧ (xs.map KV.p).take i = (ys.map KV.p).take i) (fun i => xs.length - i) 0 ⟨Nat.zero_le _, rfl⟩ ?_
  rintro i ⟨hi, he⟩
  refine sx ?_
  refine s_if rfl (fun t2 => ?_) (fun t2 => ?_)
  · obtain ⟨x, hxi⟩ := get_lt xs i (by omega)
    obtain ⟨y, hyi⟩ := get_lt ys i (by omega)
    have hx0 := hxr x (List.mem_of_getElem? hxi)
    have hy0 := hyr y (List.mem_of_getElem? hyi)
    have b1 := hx0.k
    have b2 := hx0.v
    have b3 := hy0.k
    have b4 := hy0.v
    have hbad : x.p ≠ y.p → xs.map KV.p ≠ ys.map KV.p := fun h e => by
      have h1 := get_map (f := KV.p) hxi
      rw [e, get_map (f := KV.p) hyi] at h1
      exact h (Option.some.inj h1).symm
    refine sx ?_; refine s_dr (.one true 0 (.one true 1 (.one true 2 (.one true 3 (.one true 4 (.one true 5 (.one true 6 (.one true 7 (.one true 8 (.one true 9 (.one true 10 (.one true 11 (.one true 12 (.one true 13 (.one true 14 (.one true 15 (.one true 16 (.one true 17 (.one true 18 (.one true 19 (.one true 20 (.one true 21 (.one true 22 (.one true 23 (.one true 24 (.one true 25 (.one true 26 (.one true 27 .nil)))))))))))))))))))))))))))) mixed (by kernel_rfl) ?_; refine sx ?_
    refine s_lifn rfl (fun t3 => ?_) (fun t3 => ?_)
    · refine sx ?_
      refine s_ret1 rfl rfl ⟨?_, rfl⟩
      rw [decide_eq_false (hbad fun e => t3 (congrArg Prod.fst e))]
    refine sx ?_
    refine s_ifn rfl (fun t4 => ?_) (fun t4 => ?_)
    · refine sx ?_
      refine s_ret1 rfl rfl ⟨?_, rfl⟩
      rw [decide_eq_false (hbad fun e => t4 (congrArg Prod.snd e))]
    · refine sx ?_
      refine s_again (i + 1) ⟨by omega, ?_⟩ (by omega)
      have e : x.p = y.p := by show (x.k, x.v) = (y.k, y.v); rw [t3, t4]
      rw [snocT (get_map (f := KV.p) hxi), snocT (get_map (f := KV.p) hyi), he, e]
  · obtain rfl : i = xs.length := by omega
    rw [List.take_of_length_le (by simp), List.take_of_length_le (by simp; omega)] at he
    refine sx ?_
    exact s_ret1 rfl rfl ⟨by rw [decide_eq_true he], rfl⟩
def sumG (l : List KV) : Nat := (l.map fun e => 6 + e.k.length + e.v.length).sum
theorem sumG_snoc (l : List KV) (e : KV) : sumG (l ++ [e]) = sumG l + (6 + e.k.length + e.v.length) := by simp [sumG]
theorem sumG_len (l : List KV) : 6 * l.length ≤ sumG l := by
  induction l with
  | nil => simp [sumG]
  | cons e l ih => simp only [sumG, List.map_cons, List.sum_cons, List.length_cons] at *; omega
set_option maxHeartbeats 1000000 in
theorem gentries_s {a : Option Addr} {c : Nat} {es : List KV} (hx : RSl w0 H a c es) (hy : ∀ e ∈ es, e.k.length ≤ 140737488355328 ∧ e.v.length ≤ 140737488355328) :
    FnS Tryz.prog w0 H 17 #[.slice a es.length c] (fun v H' => ∃ x : Int, v = .int .i64 x ∧ (0 ≤ x ∧ x ≤ 1125899906842624) ∧ (x ≤ 2147483647 → x = (sumG es : Nat)) ∧ H' = H) := by
  refine fns_enter Tryz.func17 rfl rfl rfl ?_
  refine s_kn (Kn.sl hx) fun l1 => ?_
  simp only [maxLen] at l1
  refine sx ?_
  refine s_loop (fun i : Nat × Int => [(0, .slice a es.length c), (3, .int .i64 i.2), (4, .int .i64 i.1)]) (fun _ => H) (fun i => i.1 ≤ es.length ∧ (0 ≤ i.2 ∧ i.2 ≤ 1125899906842624) ∧ (i.2 ≤ 2147483647 → i.2 = (sumG (es.take i.1) : Nat))) (fun i => es.length - i.1) (0, 0) ⟨Nat.zero_le _, by simp only; omega, fun _ => by simp [sumG]⟩ ?_
  rintro ⟨i, x⟩ ⟨h1, h2, h3⟩
  simp only at h1 h2 h3 ⊢
  refine sx ?_
  refine s_lif rfl (fun t1 => ?_) (fun t1 => ?_)
  · obtain ⟨e, he⟩ := get_lt es i (by omega)
    obtain ⟨y1, y2⟩ := hy e (List.mem_of_getElem? he)
    have hst := sumG_snoc (es.take i) e
    rw [← snocT he] at hst
    refine sx ?_
    refine s_if rfl (fun t2 => ?_) (fun t2 => ?_)
    · refine sx ?_; refine s_dr (.one true 0 (.one true 1 (.one true 2 (.one true 3 (.one true 4 (.one true 5 (.one true 6 (.one true 7 (.one true 8 (.one true 9 (.one true 10 (.one true 11 (.one true 12 (.one true 13 (.one true 14 (.one true 15 (.one true 16 .nil))))))))))))))))) mixed (by kernel_rfl) ?_; refine sx ?_
      refine s_again (i + 1, x + 6 + e.k.length + e.v.length) ⟨by simp only; omega, by simp only; omega, fun _ => ?_⟩ (by simp only; omega)
      have := h3 t2
      simp only
      omega
    · refine sx ?_
      exact s_ret1 rfl rfl ⟨x, rfl, h2, fun h => absurd h t2, rfl⟩
  · obtain rfl : i = es.length := by omega
    rw [List.take_length] at h3
    refine sx ?_
    exact s_ret1 rfl rfl ⟨x, rfl, h2, h3, rfl⟩
instance : ElT Tryz.prog 22 SE := ⟨trivial⟩
/-- Lists of entries that can be read. -/
structure RLs (w0 : World) (H : List Ck) (a : Option Addr) (c : Nat) (ls : List SE) : Prop where
  sl : RSl w0 H a c ls
  el : ∀ s ∈ ls, RSl w0 H s.a s.c s.xs ∧ ∀ e ∈ s.xs, REe w0 H e
theorem RLs.tl {a : Option Addr} {c : Nat} {ls : List SE} {d : Ck} (h : RLs w0 H a c ls) : RLs w0 (d :: H) a c ls := ⟨h.sl.tl, fun s hs => ⟨(h.el s hs).1.tl, fun e he => ((h.el s hs).2 e he).tl⟩⟩
theorem RLs.ent {a : Option Addr} {c : Nat} {ls : List SE} {H' : List Ck} (h : RLs w0 H' a c ls) (g : Ent H H') : RLs w0 H a c ls := ⟨h.sl.ent g, fun s hs => ⟨(h.el s hs).1.ent g, fun e he => ((h.el s hs).2 e he).ent g⟩⟩
def fstE : List SE → Bs → Option Bs
  | [], _ => none
  | s :: ls, k => match getE s.xs k with
    | some v => some v
    | none => fstE ls k
end Go.Sx
namespace Go.Sx
open Go
abbrev Pp := Bs × Bs
def keyAt (ls : List (List Pp)) (b : Nat) : Bs := match ls[b]? with
  | some (p :: _) => p.1
  | _ => []
/-- Of the first so many: which one's head is the least (the first of these). -/
def bst (ls : List (List Pp)) : Nat → Option Nat
  | 0 => none
  | j + 1 => match ls[j]? with
    | some (p :: _) => match bst ls j with
      | none => some j
      | some b => if cmp p.1 (keyAt ls b) < 0 then some j else some b
    | _ => bst ls j
def skp (k : Bs) (l : List Pp) : List Pp := l.dropWhile fun p => decide (cmp p.1 k ≤ 0)
def unN : Nat → List (List Pp) → List Pp
  | 0, _ => []
  | n + 1, ls => match bst ls ls.length with
    | none => []
    | some b => match ls[b]? with
      | some (p :: _) => p :: unN n (ls.map (skp p.1))
      | _ => []
def tot (ls : List (List Pp)) : Nat := (ls.map List.length).sum
def unionL (ls : List (List Pp)) : List Pp := unN (tot ls) ls
theorem bst_some : ∀ {j : Nat} {ls : List (List Pp)} {b : Nat}, bst ls j = some b → b < j ∧ ∃ p r, ls[b]? = some (p :: r)
  | 0, ls, b, h => by simp [bst] at h
  | j + 1, ls, b, h => by
    unfold bst at h
    split at h
    · rename_i p r hj
      split at h
      · cases h; exact ⟨by omega, p, r, hj⟩
      · rename_i b' hb'
        split at h
        · cases h; exact ⟨by omega, p, r, hj⟩
        · cases h
          have := bst_some hb'
          exact ⟨by omega, this.2⟩
    · have := bst_some h
      exact ⟨by omega, this.2⟩
theorem skp_le (k : Bs) (l : List Pp) : (skp k l).length ≤ l.length := (List.dropWhile_sublist _).length_le
theorem skp_hd {p : Pp} {r : List Pp} : skp p.1 (p :: r) = skp p.1 r := by simp [skp, cmp_self]
theorem tot_cons (l : List Pp) (ls : List (List Pp)) : tot (l :: ls) = l.length + tot ls := by simp [tot]
theorem tot_skp (k : Bs) : ∀ ls : List (List Pp), tot (ls.map (skp k)) ≤ tot ls
  | [] => Nat.le_refl _
  | l :: ls => by
    have h1 := tot_skp k ls
    have h2 := skp_le k l
    rw [List.map_cons, tot_cons, tot_cons]
    omega
theorem tot_lt {p : Pp} {r : List Pp} : ∀ {ls : List (List Pp)} {b : Nat}, ls[b]? = some (p :: r) → tot (ls.map (skp p.1)) < tot ls
  | [], b, h => by simp at h
  | l :: ls, 0, h => by
    simp only [List.getElem?_cons_zero, Option.some.injEq] at h
    subst h
    have h1 := tot_skp p.1 ls
    have h2 := skp_le p.1 r
    rw [List.map_cons, tot_cons, tot_cons, skp_hd, List.length_cons]
    omega
  | l :: ls, b + 1, h => by
    have h1 := tot_lt (ls := ls) (b := b) (by simpa using h)
    have h2 := skp_le p.1 l
    rw [List.map_cons, tot_cons, tot_cons]
    omega
theorem unN_more : ∀ (n m : Nat) (ls : List (List Pp)), tot ls ≤ n → tot ls ≤ m → unN n ls = unN m ls
  | 0, 0, _, _, _ => rfl
  | 0, m + 1, ls, h, _ => by
    unfold unN
    split
    · rfl
    · rename_i b hb
      obtain ⟨_, p, r, hp⟩ := bst_some hb
      have := tot_lt hp
      omega
  | n + 1, 0, ls, _, h => by
    unfold unN
    split
    · rfl
    · rename_i b hb
      obtain ⟨_, p, r, hp⟩ := bst_some hb
      have := tot_lt hp
      omega
  | n + 1, m + 1, ls, h1, h2 => by
    unfold unN
    split
    · rfl
    · rename_i b hb
      split
      · rename_i p r hp
        have := tot_lt hp
        rw [unN_more n m _ (by omega) (by omega)]
      · rfl
theorem unionL_none {ls : List (List Pp)} (h : bst ls ls.length = none) : unionL ls = [] := by
  unfold unionL
  cases tot ls with
  | zero => rfl
  | succ n => simp [unN, h]
theorem unionL_some {ls : List (List Pp)} {b : Nat} {p : Pp} {r : List Pp} (h : bst ls ls.length = some b) (hp : ls[b]? = some (p :: r)) : unionL ls = p :: unionL (ls.map (skp p.1)) := by
  have h1 := tot_lt hp
  unfold unionL
  obtain ⟨n, hn⟩ : ∃ n, tot ls = n + 1 := ⟨tot ls - 1, by omega⟩
  rw [hn]
  simp only [unN, h, hp]
  rw [unN_more n (tot (ls.map (skp p.1))) _ (by omega) (Nat.le_refl _)]
/-! ### With their addresses -/
def skpK (k : Bs) (l : List KV) : List KV := l.dropWhile fun p => decide (cmp p.k k ≤ 0)
theorem skpK_p (k : Bs) : ∀ l : List KV, (skpK k l).map KV.p = skp k (l.map KV.p)
  | [] => rfl
  | e :: l => by
    have ih := skpK_p k l
    unfold skpK skp at *
    simp only [List.map_cons, List.dropWhile_cons]
    show List.map KV.p (if decide (cmp e.k k ≤ 0) = true then _ else _) = if decide (cmp e.k k ≤ 0) = true then _ else _
    split
    · exact ih
    · rfl
theorem skpK_sub (k : Bs) (l : List KV) : (skpK k l).Sublist l := List.dropWhile_sublist _
theorem skpK_go {k : Bs} {e : KV} {l : List KV} (h : cmp e.k k ≤ 0) : skpK k (e :: l) = skpK k l := by simp [skpK, h]
theorem skpK_no {k : Bs} {e : KV} {l : List KV} (h : ¬ cmp e.k k ≤ 0) : skpK k (e :: l) = e :: l := by simp [skpK, h]
theorem flat_skp (k : Bs) : ∀ F : List (List KV), (F.map (skpK k)).flatten.Sublist F.flatten
  | [] => .slnil
  | l :: F => by simpa using (skpK_sub k l).append (flat_skp k F)
/-- One thing is told; what is left is among the others. -/
theorem flat_told {e : KV} {r : List KV} : ∀ {F : List (List KV)} {b : Nat}, F[b]? = some (e :: r) → ∃ G, F.flatten.Perm (e :: G) ∧ (F.map (skpK e.k)).flatten.Sublist G
  | [], b, h => by simp at h
  | l :: F, 0, h => by
    simp only [List.getElem?_cons_zero, Option.some.injEq] at h
    subst h
    refine ⟨r ++ F.flatten, by simp, ?_⟩
    rw [List.map_cons, List.flatten_cons, skpK_go (by rw [cmp_self]; omega)]
    exact (skpK_sub _ _).append (flat_skp _ _)
  | l :: F, b + 1, h => by
    obtain ⟨G, h1, h2⟩ := flat_told (F := F) (b := b) (by simpa using h)
    refine ⟨l ++ G, ?_, ?_⟩
    · rw [List.flatten_cons]
      exact (h1.append_left l).trans List.perm_middle
    · rw [List.map_cons, List.flatten_cons]
      exact (skpK_sub _ _).append h2
end Go.Sx
namespace Go.Sx
open Go
def RiL (l : List Pp) : Prop := l.Pairwise fun a b => cmp a.1 b.1 < 0
/-- What a list says of a key: the last one that has it. -/
def getL (l : List Pp) (k : Bs) : Option Bs := ((l.filter fun p => decide (p.1 = k)).getLast?).map Prod.snd
theorem getL_cons (p : Pp) (l : List Pp) (k : Bs) : getL (p :: l) k = match getL l k with
    | some v => some v
    | none => if p.1 = k then some p.2 else none := by
  unfold getL
  rw [List.filter_cons]
  by_cases h : p.1 = k
  · simp only [h, decide_true, if_true]
    cases hl : (l.filter fun p => decide (p.1 = k)).getLast? with
    | none =>
      rw [List.getLast?_eq_none_iff] at hl
      simp [hl]
    | some q => simp [List.getLast?_cons, hl]
  · simp only [h, decide_false, if_false]
    cases hl : (l.filter fun p => decide (p.1 = k)).getLast? with
    | none => simp [hl]
    | some q => simp [hl]
theorem getL_none {k : Bs} : ∀ {l : List Pp}, (∀ p ∈ l, p.1 ≠ k) → getL l k = none
  | [], _ => rfl
  | p :: l, h => by
    rw [getL_cons, getL_none fun q hq => h q (List.mem_cons_of_mem _ hq), if_neg (h p (by simp))]
theorem getL_mem {k v : Bs} : ∀ {l : List Pp}, getL l k = some v → (k, v) ∈ l
  | [], h => by cases h
  | p :: l, h => by
    rw [getL_cons] at h
    cases hl : getL l k with
    | some w =>
      rw [hl] at h
      cases h
      exact List.mem_cons_of_mem _ (getL_mem hl)
    | none =>
      rw [hl] at h
      simp only at h
      by_cases e : p.1 = k
      · rw [if_pos e] at h
        cases h
        subst e
        simp
      · rw [if_neg e] at h
        cases h
theorem getL_at {l : List Pp} (h : RiL l) {p : Pp} (hp : p ∈ l) : getL l p.1 = some p.2 := by
  induction l with
  | nil => cases hp
  | cons q l ih =>
    obtain ⟨h1, h2⟩ := List.pairwise_cons.1 h
    rw [getL_cons]
    rcases List.mem_cons.1 hp with rfl | hp
    · rw [getL_none fun r hr e => by have := h1 r hr; rw [e, cmp_self] at this; omega, if_pos rfl]
    · rw [ih h2 hp]
/-- Rising lists that say the same are one. -/
theorem RiL.uniq : ∀ {l m : List Pp}, RiL l → RiL m → (∀ k, getL l k = getL m k) → l = m
  | [], [], _, _, _ => rfl
  | [], q :: m, _, hm, h => by
    have := getL_at hm (p := q) (by simp)
    rw [← h] at this
    cases this
  | p :: l, [], hl, _, h => by
    have := getL_at hl (p := p) (by simp)
    rw [h] at this
    cases this
  | p :: l, q :: m, hl, hm, h => by
    obtain ⟨h1, h2⟩ := List.pairwise_cons.1 hl
    obtain ⟨g1, g2⟩ := List.pairwise_cons.1 hm
    have a1 := getL_at hl (p := p) (by simp)
    have a2 := getL_at hm (p := q) (by simp)
    have b1 := getL_mem (by rw [← h]; exact a1)
    have b2 := getL_mem (by rw [h]; exact a2)
    have hpq : p = q := by
      rcases List.mem_cons.1 b1 with e | e
      · exact e
      · rcases List.mem_cons.1 b2 with e' | e'
        · exact e'.symm
        · have x1 := g1 _ e
          have x2 := h1 _ e'
          have := cmp_anti p.1 q.1
          simp only at x1 x2
          omega
    subst hpq
    congr 1
    refine RiL.uniq h2 g2 fun k => ?_
    have hk := h k
    rw [getL_cons, getL_cons] at hk
    by_cases e : p.1 = k
    · subst e
      rw [getL_none fun r hr e => by have := h1 r hr; rw [e, cmp_self] at this; omega, getL_none fun r hr e => by have := g1 r hr; rw [e, cmp_self] at this; omega]
    · simp only [if_neg e] at hk
      cases x : getL l k <;> cases y : getL m k <;> simp_all
/-- What the first of some lists says that says something. -/
def fstL : List (List Pp) → Bs → Option Bs
  | [], _ => none
  | l :: ls, k => match getL l k with
    | some v => some v
    | none => fstL ls k
theorem fstL_app (k : Bs) : ∀ (a b : List (List Pp)), fstL (a ++ b) k = match fstL a k with | some v => some v | none => fstL b k
  | [], b => rfl
  | l :: a, b => by
    show (match getL l k with | some v => some v | none => fstL (a ++ b) k) = _
    rw [fstL_app k a b]
    simp only [fstL]
    cases getL l k <;> rfl
theorem bst_none : ∀ {j : Nat} {ls : List (List Pp)}, bst ls j = none → ∀ i < j, ∀ l, ls[i]? = some l → l = []
  | 0, _, _, i, hi, _, _ => by omega
  | j + 1, ls, h, i, hi, l, hl => by
    unfold bst at h
    split at h
    · split at h
      · cases h
      · split at h <;> cases h
    · rename_i hx
      rcases Nat.lt_or_ge i j with g | g
      · exact bst_none h i g l hl
      · obtain rfl : i = j := by omega
        cases l with
        | nil => rfl
        | cons p r => exact absurd hl (hx p r)
theorem keyAt_eq {ls : List (List Pp)} {b : Nat} {p : Pp} {r : List Pp} (h : ls[b]? = some (p :: r)) : keyAt ls b = p.1 := by simp [keyAt, h]
/-- The best one's head is the least, and less than those ahead of it. -/
theorem bst_le : ∀ {j : Nat} {ls : List (List Pp)} {b : Nat}, bst ls j = some b → ∀ i < j, ∀ q r, ls[i]? = some (q :: r) → cmp (keyAt ls b) q.1 ≤ 0 ∧ (i < b → cmp (keyAt ls b) q.1 < 0)
  | 0, _, _, h, _, _, _, _, _ => by cases h
  | j + 1, ls, b, h, i, hi, q, r, hq => by
    unfold bst at h
    split at h
    · rename_i p s hj
      split at h
      · rename_i hn
        cases h
        rcases Nat.lt_or_ge i j with g | g
        · have := bst_none hn i g _ hq
          cases this
        · obtain rfl : i = j := by omega
          rw [hj] at hq
          cases hq
          rw [keyAt_eq hj, cmp_self]
          exact ⟨Int.le_refl _, fun g => absurd g (Nat.lt_irrefl _)⟩
      · rename_i b' hb'
        have ih := bst_le hb'
        obtain ⟨hb1, p', r', hb2⟩ := bst_some hb'
        split at h
        · rename_i hc
          cases h
          rw [keyAt_eq hj]
          rcases Nat.lt_or_ge i j with g | g
          · have h1 := (ih i g q r hq).1
            have := lt_tr hc h1
            exact ⟨by omega, fun _ => this⟩
          · obtain rfl : i = j := by omega
            rw [hj] at hq
            cases hq
            rw [cmp_self]
            exact ⟨Int.le_refl _, fun g => absurd g (Nat.lt_irrefl _)⟩
        · rename_i hc
          cases h
          rcases Nat.lt_or_ge i j with g | g
          · exact ih i g q r hq
          · obtain rfl : i = j := by omega
            rw [hj] at hq
            cases hq
            have := cmp_anti q.1 (keyAt ls b)
            exact ⟨by omega, fun g => by omega⟩
    · rename_i hx
      rcases Nat.lt_or_ge i j with g | g
      · exact bst_le h i g q r hq
      · obtain rfl : i = j := by omega
        exact absurd hq (hx q r)
theorem skp_mem {k : Bs} {l : List Pp} {e : Pp} (h : e ∈ skp k l) : e ∈ l := (List.dropWhile_sublist _).subset h
theorem skp_ri {k : Bs} {l : List Pp} (h : RiL l) : RiL (skp k l) := h.sublist (List.dropWhile_sublist _)
theorem skp_gt {k : Bs} : ∀ {l : List Pp}, RiL l → ∀ e ∈ skp k l, cmp k e.1 < 0
  | [], _, e, he => by cases he
  | p :: l, h, e, he => by
    obtain ⟨h1, h2⟩ := List.pairwise_cons.1 h
    unfold skp at he
    rw [List.dropWhile_cons] at he
    split at he
    · exact skp_gt h2 e he
    · rename_i hc
      have hc : ¬ cmp p.1 k ≤ 0 := by simpa using hc
      have hpk : cmp k p.1 < 0 := by have := cmp_anti p.1 k; omega
      rcases List.mem_cons.1 he with rfl | he
      · exact hpk
      · have := h1 e he
        exact lt_tr hpk (by omega)
theorem skp_get {k key : Bs} (hk : cmp k key < 0) : ∀ {l : List Pp}, RiL l → getL (skp k l) key = getL l key
  | [], _ => rfl
  | p :: l, h => by
    obtain ⟨h1, h2⟩ := List.pairwise_cons.1 h
    unfold skp
    rw [List.dropWhile_cons]
    split
    · rename_i hc
      have hc : cmp p.1 k ≤ 0 := by simpa using hc
      have : getL (skp k l) key = getL l key := skp_get hk h2
      unfold skp at this
      rw [this, getL_cons]
      have hne : p.1 ≠ key := by
        rintro rfl
        have := cmp_anti p.1 k
        omega
      rw [if_neg hne]
      cases getL l key <;> rfl
    · rfl
theorem unN_mem : ∀ (n : Nat) (ls : List (List Pp)) (e : Pp), e ∈ unN n ls → ∃ l ∈ ls, e ∈ l
  | 0, _, _, h => by cases h
  | n + 1, ls, e, h => by
    unfold unN at h
    split at h
    · cases h
    · split at h
      · rename_i b _ p r hp
        rcases List.mem_cons.1 h with rfl | h
        · exact ⟨_, List.mem_of_getElem? hp, by simp⟩
        · obtain ⟨l, hl, he⟩ := unN_mem n _ e h
          obtain ⟨l', hl', rfl⟩ := List.mem_map.1 hl
          exact ⟨l', hl', skp_mem he⟩
      · cases h
theorem fst_skp {k key : Bs} (hk : cmp k key < 0) : ∀ {ls : List (List Pp)}, (∀ l ∈ ls, RiL l) → fstL (ls.map (skp k)) key = fstL ls key
  | [], _ => rfl
  | l :: ls, h => by
    simp only [List.map_cons, fstL]
    rw [skp_get hk (h l (by simp)), fst_skp hk fun m hm => h m (List.mem_cons_of_mem _ hm)]
theorem fst_none {key : Bs} : ∀ {ls : List (List Pp)}, (∀ l ∈ ls, ∀ e ∈ l, e.1 ≠ key) → fstL ls key = none
  | [], _ => rfl
  | l :: ls, h => by
    simp only [fstL]
    rw [getL_none (h l (by simp))]
    exact fst_none fun m hm => h m (List.mem_cons_of_mem _ hm)
theorem union_is : ∀ (n : Nat) (ls : List (List Pp)), tot ls ≤ n → (∀ l ∈ ls, RiL l) → RiL (unionL ls) ∧ ∀ key, getL (unionL ls) key = fstL ls key := by
  intro n
  induction n with
  | zero =>
    intro ls hn hr
    have hb : bst ls ls.length = none := by
      rcases hb : bst ls ls.length with _ | b
      · rfl
      · obtain ⟨_, p, r, hp⟩ := bst_some hb
        have := tot_lt hp
        omega
    rw [unionL_none hb]
    refine ⟨List.Pairwise.nil, fun key => ?_⟩
    rw [fst_none]
    · rfl
    · intro l hl e he
      obtain ⟨i, hi⟩ := List.getElem?_of_mem hl
      have := bst_none hb i (List.getElem?_eq_some_iff.1 hi).1 l hi
      subst this
      cases he
  | succ n ih =>
    intro ls hn hr
    rcases hb : bst ls ls.length with _ | b
    · rw [unionL_none hb]
      refine ⟨List.Pairwise.nil, fun key => ?_⟩
      rw [fst_none]
      · rfl
      · intro l hl e he
        obtain ⟨i, hi⟩ := List.getElem?_of_mem hl
        have := bst_none hb i (List.getElem?_eq_some_iff.1 hi).1 l hi
        subst this
        cases he
    · obtain ⟨hbl, p, r, hp⟩ := bst_some hb
      have hlt := tot_lt hp
      rw [unionL_some hb hp]
      have hr' : ∀ l ∈ ls.map (skp p.1), RiL l := by
        intro l hl
        obtain ⟨l', hl', rfl⟩ := List.mem_map.1 hl
        exact skp_ri (hr l' hl')
      obtain ⟨i1, i2⟩ := ih (ls.map (skp p.1)) (by omega) hr'
      have hgt : ∀ e ∈ unionL (ls.map (skp p.1)), cmp p.1 e.1 < 0 := by
        intro e he
        obtain ⟨l, hl, hel⟩ := unN_mem _ _ e he
        obtain ⟨l', hl', rfl⟩ := List.mem_map.1 hl
        exact skp_gt (hr l' hl') e hel
      refine ⟨List.pairwise_cons.2 ⟨hgt, i1⟩, fun key => ?_⟩
      rw [getL_cons, i2]
      have hle := bst_le hb
      rw [keyAt_eq hp] at hle
      -- no head is less than p
      have hmin : ∀ (i : Nat) (l : List Pp), ls[i]? = some l → ∀ e ∈ l, cmp p.1 e.1 ≤ 0 ∧ (i < b → cmp p.1 e.1 < 0) := by
        intro i l hl e he
        have hil := (List.getElem?_eq_some_iff.1 hl).1
        cases l with
        | nil => cases he
        | cons q s =>
          obtain ⟨h1, h2⟩ := hle i hil q s hl
          rcases List.mem_cons.1 he with rfl | he
          · exact ⟨h1, h2⟩
          · have h3 := (List.pairwise_cons.1 (hr _ (List.mem_of_getElem? hl))).1 e he
            have h4 : cmp p.1 e.1 < 0 := by
              rcases Int.lt_or_eq_of_le h1 with g | g
              · exact lt_tr g (by omega)
              · have := (cmp_eq _ _).1 g
                rw [this]
                exact h3
            exact ⟨by omega, fun _ => h4⟩
      by_cases hk : cmp p.1 key < 0
      · rw [fst_skp hk hr, if_neg (by rintro rfl; rw [cmp_self] at hk; omega)]
        cases fstL ls key <;> rfl
      · have hz : fstL (ls.map (skp p.1)) key = none := by
          refine fst_none fun l hl e he => ?_
          obtain ⟨l', hl', rfl⟩ := List.mem_map.1 hl
          have := skp_gt (hr l' hl') e he
          rintro rfl
          exact hk this
        rw [hz]
        simp only
        by_cases e : p.1 = key
        · subst e
          rw [if_pos rfl]
          have hsplit : ls = ls.take b ++ (p :: r) :: ls.drop (b + 1) := by
            rw [← dropG hp, List.take_append_drop]
          rw [hsplit, fstL_app, fst_none]
          · simp only [fstL]
            rw [getL_at (hr _ (List.mem_of_getElem? hp)) (by simp)]
          · intro l hl e he hne
            obtain ⟨i, hi⟩ := List.getElem?_of_mem hl
            have hib : i < b := by
              have := (List.getElem?_eq_some_iff.1 hi).1
              rw [List.length_take] at this
              omega
            rw [List.getElem?_take_of_lt hib] at hi
            have := (hmin i l hi e he).2 hib
            rw [hne, cmp_self] at this
            omega
        · rw [if_neg e, fst_none]
          intro l hl e' he' hne
          obtain ⟨i, hi⟩ := List.getElem?_of_mem hl
          have := (hmin i l hi e' he').1
          rw [hne] at this
          rcases Int.lt_or_eq_of_le this with g | g
          · exact hk g
          · exact e ((cmp_eq _ _).1 g)
theorem union_ri {ls : List (List Pp)} (h : ∀ l ∈ ls, RiL l) : RiL (unionL ls) := (union_is _ ls (Nat.le_refl _) h).1
theorem union_get {ls : List (List Pp)} (h : ∀ l ∈ ls, RiL l) (key : Bs) : getL (unionL ls) key = fstL ls key := (union_is _ ls (Nat.le_refl _) h).2 key
end Go.Sx
namespace Go.Sx
open Go Go.Proofs
set_option maxRecDepth 10000
variable {w0 : World} {H : List Ck}
/-- A function (none: nil). -/
structure Fu where
  o : Option (Nat × List Value)
@[reducible] def Fu.val (x : Fu) : Value := match x.o with
  | none => .nilFunc
  | some (k, cap) => .func (.func k) #[] cap.toArray
instance : Cel Fu := ⟨1, fun x => [x.val], fun _ => rfl, fun x => by obtain ⟨_ | ⟨k, cap⟩⟩ := x <;> rfl, Nat.one_pos⟩
instance : ElT Tryz.prog 40 Fu := ⟨trivial⟩
/-- An address of a block. -/
structure Pb where
  b : Nat
@[reducible] def Pb.val (x : Pb) : Value := .pointer (some ⟨x.b, 0, none⟩)
instance : Cel Pb := ⟨1, fun x => [x.val], fun _ => rfl, fun _ => rfl, Nat.one_pos⟩
instance : ElT Tryz.prog 117 Pb := ⟨trivial⟩
theorem FnV.rm {P : Program} {c : Ck} {H R : List Ck} {k : FuncId} {args : Array Value} {v : Value} (hr : Rm c H R) (h : FnV P w0 (c :: R) k args v) : FnV P w0 H k args v :=
  FnS.post (FnS.ent h (Ent.perm hr.out)) fun _ _ ⟨h1, h2⟩ => ⟨H, ⟨h1, rfl⟩, by subst h2; exact Ent.perm hr.out.symm⟩
theorem hok_s {b c : Nat} {a : Option Addr} {es : List KV} : FnV Tryz.prog w0 (.hb b 119 [.slice a es.length c] :: H) 64 #[.pointer (some ⟨b, 0, none⟩)] (.bool (decide ((0 : Int) < es.length))) := by
  refine fns_enter Tryz.func64 rfl rfl rfl ?_
  refine sx ?_
  exact s_ret1 rfl rfl ⟨rfl, rfl⟩
theorem hstep_s {b c : Nat} {a : Option Addr} {e : KV} {es : List KV} (h : RSl w0 H a c (e :: es)) : FnS Tryz.prog w0 (.hb b 119 [.slice a (es.length + 1 : Nat) c] :: H) 65 #[.pointer (some ⟨b, 0, none⟩)]
    (fun v H' => v = .tuple #[] ∧ H' = .hb b 119 [.slice (sl a c 1 2) es.length (c - 1)] :: H) := by
  refine fns_enter Tryz.func65 rfl rfl rfl ?_
  refine s_kn (Kn.sl h).tl fun ⟨l1, l2⟩ => ?_
  simp only [List.length_cons] at l1
  refine sx ?_
  refine s_yS rfl rfl rfl (y_slF (k := 1) rfl rfl (by omega)) ?_
  refine sx ?_
  exact s_end0 rfl ⟨rfl, rfl⟩
theorem clone_s {a : Option Addr} {c : Nat} {xs : List Fu} (hx : RSl w0 H a c xs) (hl : xs.length ≤ 5864062014805) : FnS Tryz.prog w0 H 62 #[.slice a xs.length c] (fun v H' => ∃ a' c', v = .slice a' xs.length c' ∧ H' = ol 40 a' c' xs :: H) := by
  refine fns_enter Tryz.func62 rfl rfl rfl ?_
  refine sx ?_
  refine s_cond rfl (fun t1 => ?_) (fun t1 => ?_)
  · refine s_kn (φ := xs = []) (fun w hw => ?_) fun e => ?_
    · have h := hx w hw
      have h1 := h.nil (by simpa using t1)
      exact List.eq_nil_of_length_eq_zero (by have := h.le; omega)
    subst e
    refine sx ?_
    exact s_ret1 rfl rfl ⟨none, 0, rfl, rfl⟩ Ent.nilS
  refine sx ?_
  refine s_bsl ([] : List Fu) rfl rfl fun b1 => ?_
  refine sx ?_
  refine s_app (ys := xs) ?_
  intro a1 c1
  refine sx ?_
  exact s_ret1 rfl rfl ⟨a1, c1, rfl, rfl⟩
@[reducible] def unL (b : Nat) (a : Option Addr) (c : Nat) (fs : List Fu) : List Ck := [.hb b 67 [.slice a fs.length c], ol 40 a c fs]
theorem union_s {a : Option Addr} {c : Nat} {fs : List Fu} (hx : RSl w0 H a c fs) (hl : fs.length ≤ 5864062014805) : FnS Tryz.prog w0 H 24 #[.slice a fs.length c] (fun v H' => ∃ b a' c', v = .func (.func 63) #[] #[.pointer (some ⟨b, 0, none⟩)] ∧ H' = unL b a' c' fs ++ H) := by
  refine fns_enter Tryz.func24 rfl rfl rfl ?_
  refine sx ?_
  refine s_call rfl (clone_s hx hl) ?_
  rintro _ _ ⟨a1, c1, rfl, rfl⟩
  refine ⟨chk_seq, ?_⟩
  refine sx ?_
  refine s_alloc fun b3 => ?_
  refine sx ?_
  exact s_ret1 rfl rfl ⟨b3, a1, c1, rfl, rfl⟩
end Go.Sx

