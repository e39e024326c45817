/- Part of a proof: several parts of a walk, one behind the other. -/
import Derived.Test.YtpnhoafmlhlfgaaGreatCMR
import Derived.Test.YtpnhoafmlhlfgaaGreatCQB
import Derived.Test.YtpnhoafmlhlfgaaGreatCH1j
namespace Go.Sx
open Go Go.Proofs
set_option maxRecDepth 10000
variable {w0 : World} {H : List Ck}
theorem getE_at {es : List KV} {i : Nat} {e : KV} (h : es[i]? = some e) (hn : ∀ x ∈ es.drop (i + 1), x.k ≠ e.k) : getE es e.k = some e.v := by
  have hs : es = es.take i ++ e :: es.drop (i + 1) := by rw [← dropG h, List.take_append_drop]
  have hd : (es.drop (i + 1)).filter (kf e.k) = [] := List.filter_eq_nil_iff.2 fun x hx => by simp only [kf, decide_eq_true_eq]; exact hn x hx
  unfold getE
  rw [hs, List.filter_append, List.filter_cons, if_pos (by simp [kf]), hd]
  simp
abbrev FndR (w0 : World) (g : Option Bs) (H : List Ck) : Value → List Ck → Prop := fun v H' => ∃ va vc, v = .tuple #[.bool g.isSome, .slice va (g.getD []).length vc] ∧ RBy w0 H va vc (g.getD []) ∧ H' = H
theorem gsameE_s {a a' : Option Addr} {c c' : Nat} {xs ys : List KV} (hx : RSl w0 H a c xs) (hxr : ∀ e ∈ xs, REe w0 H e) (hy : RSl w0 H a' c' ys) (hyr : ∀ e ∈ ys, REe w0 H e) : FnV Tryz.prog w0 H 14 #[.slice a xs.length c, .slice a' ys.length c'] (.bool (decide (xs.map KV.p = ys.map KV.p))) := by
  refine fns_enter Tryz.func14 rfl rfl rfl ?_
  refine s_kn (Kn.sl hx) fun l1 => s_kn (Kn.sl hy) fun l2 => ?_
  simp only [maxLen] at l1 l2
  refine sx ?_
  refine s_ifn rfl (fun t1 => ?_) (fun t1 => ?_)
  · refine sx ?_
    refine s_ret1 rfl rfl ⟨?_, rfl⟩
    rw [decide_eq_false (fun e => t1 (by have := congrArg List.length e; simp only [List.length_map] at this; rw [this]))]
  have hl : xs.length = ys.length := by omega
  refine sx ?_
  refine s_loop (fun i : Nat => [(0, .slice a xs.length c), (1, .slice a' ys.length c'), (5, .int .i64 i)]) (fun _ => H) (fun i => i ≤ xs.length ∧ (xs.map KV.p).take i = (ys.map KV.p).take i) (fun i => xs.length - i) 0 ⟨Nat.zero_le _, rfl⟩ ?_
  rintro i ⟨hi, he⟩
  refine sx ?_
  refine s_if rfl (fun t2 => ?_) (fun t2 => ?_)
  · obtain ⟨x, hxi⟩ := get_lt xs i (by omega)
    obtain ⟨y, hyi⟩ := get_lt ys i (by omega)
    have hx0 := hxr x (List.mem_of_getElem? hxi)
    have hy0 := hyr y (List.mem_of_getElem? hyi)
    have b1 := hx0.k
    have b2 := hx0.v
    have b3 := hy0.k
    have b4 := hy0.v
    have hbad : x.p ≠ y.p → xs.map KV.p ≠ ys.map KV.p := fun h e => by
      have h1 := get_map (f := KV.p) hxi
      rw [e, get_map (f := KV.p) hyi] at h1
      exact h (Option.some.inj h1).symm
    refine sx ?_; refine s_dr (.one true 0 (.one true 1 (.one true 2 (.one true 3 (.one true 4 (.one true 5 (.one true 6 (.one true 7 (.one true 8 (.one true 9 (.one true 10 (.one true 11 (.one true 12 (.one true 13 (.one true 14 (.one true 15 (.one true 16 (.one true 17 (.one true 18 (.one true 19 (.one true 20 (.one true 21 (.one true 22 (.one true 23 (.one true 24 (.one true 25 (.one true 26 (.one true 27 .nil)))))))))))))))))))))))))))) mixed (by kernel_rfl) ?_; refine sx ?_
    refine s_lifn rfl (fun t3 => ?_) (fun t3 => ?_)
    · refine sx ?_
      refine s_ret1 rfl rfl ⟨?_, rfl⟩
      rw [decide_eq_false (hbad fun e => t3 (congrArg Prod.fst e))]
    refine sx ?_
    refine s_ifn rfl (fun t4 => ?_) (fun t4 => ?_)
    · refine sx ?_
      refine s_ret1 rfl rfl ⟨?_, rfl⟩
      rw [decide_eq_false (hbad fun e => t4 (congrArg Prod.snd e))]
    · refine sx ?_
      refine s_again (i + 1) ⟨by omega, ?_⟩ (by omega)
      have e : x.p = y.p := by show (x.k, x.v) = (y.k, y.v); rw [t3, t4]
      rw [snocT (get_map (f := KV.p) hxi), snocT (get_map (f := KV.p) hyi), he, e]
  · obtain rfl : i = xs.length := by omega
    rw [List.take_of_length_le (by simp), List.take_of_length_le (by simp; omega)] at he
    refine sx ?_
    exact s_ret1 rfl rfl ⟨by rw [decide_eq_true he], rfl⟩
def sumG (l : List KV) : Nat := (l.map fun e => 6 + e.k.length + e.v.length).sum
theorem sumG_snoc (l : List KV) (e : KV) : sumG (l ++ [e]) = sumG l + (6 + e.k.length + e.v.length) := by simp [sumG]
theorem sumG_len (l : List KV) : 6 * l.length ≤ sumG l := by
  induction l with
  | nil => simp [sumG]
  | cons e l ih => simp only [sumG, List.map_cons, List.sum_cons, List.length_cons] at *; omega
set_option maxHeartbeats 1000000 in
theorem gentries_s {a : Option Addr} {c : Nat} {es : List KV} (hx : RSl w0 H a c es) (hy : ∀ e ∈ es, e.k.length ≤ 140737488355328 ∧ e.v.length ≤ 140737488355328) :
    FnS Tryz.prog w0 H 17 #[.slice a es.length c] (fun v H' => ∃ x : Int, v = .int .i64 x ∧ (0 ≤ x ∧ x ≤ 1125899906842624) ∧ (x ≤ 2147483647 → x = (sumG es : Nat)) ∧ H' = H) := by
  refine fns_enter Tryz.func17 rfl rfl rfl ?_
  refine s_kn (Kn.sl hx) fun l1 => ?_
  simp only [maxLen] at l1
  refine sx ?_
  refine s_loop (fun i : Nat × Int => [(0, .slice a es.length c), (3, .int .i64 i.2), (4, .int .i64 i.1)]) (fun _ => H) (fun i => i.1 ≤ es.length ∧ (0 ≤ i.2 ∧ i.2 ≤ 1125899906842624) ∧ (i.2 ≤ 2147483647 → i.2 = (sumG (es.take i.1) : Nat))) (fun i => es.length - i.1) (0, 0) ⟨Nat.zero_le _, by simp only; omega, fun _ => by simp [sumG]⟩ ?_
  rintro ⟨i, x⟩ ⟨h1, h2, h3⟩
  simp only at h1 h2 h3 ⊢
  refine sx ?_
  refine s_lif rfl (fun t1 => ?_) (fun t1 => ?_)
  · obtain ⟨e, he⟩ := get_lt es i (by omega)
    obtain ⟨y1, y2⟩ := hy e (List.mem_of_getElem? he)
    have hst := sumG_snoc (es.take i) e
    rw [← snocT he] at hst
    refine sx ?_
    refine s_if rfl (fun t2 => ?_) (fun t2 => ?_)
    · refine sx ?_; refine s_dr (.one true 0 (.one true 1 (.one true 2 (.one true 3 (.one true 4 (.one true 5 (.one true 6 (.one true 7 (.one true 8 (.one true 9 (.one true 10 (.one true 11 (.one true 12 (.one true 13 (.one true 14 (.one true 15 (.one true 16 .nil))))))))))))))))) mixed (by kernel_rfl) ?_; refine sx ?_
      refine s_again (i + 1, x + 6 + e.k.length + e.v.length) ⟨by simp only; omega, by simp only; omega, fun _ => ?_⟩ (by simp only; omega)
      have := h3 t2
      simp only
      omega
    · refine sx ?_
      exact s_ret1 rfl rfl ⟨x, rfl, h2, fun h => absurd h t2, rfl⟩
  · obtain rfl : i = es.length := by omega
    rw [List.take_length] at h3
    refine sx ?_
    exact s_ret1 rfl rfl ⟨x, rfl, h2, h3, rfl⟩
instance : ElT Tryz.prog 22 SE := ⟨trivial⟩
/-- Lists of entries that can be read. -/
structure RLs (w0 : World) (H : List Ck) (a : Option Addr) (c : Nat) (ls : List SE) : Prop where
  sl : RSl w0 H a c ls
  el : ∀ s ∈ ls, RSl w0 H s.a s.c s.xs ∧ ∀ e ∈ s.xs, REe w0 H e
theorem RLs.tl {a : Option Addr} {c : Nat} {ls : List SE} {d : Ck} (h : RLs w0 H a c ls) : RLs w0 (d :: H) a c ls := ⟨h.sl.tl, fun s hs => ⟨(h.el s hs).1.tl, fun e he => ((h.el s hs).2 e he).tl⟩⟩
theorem RLs.ent {a : Option Addr} {c : Nat} {ls : List SE} {H' : List Ck} (h : RLs w0 H' a c ls) (g : Ent H H') : RLs w0 H a c ls := ⟨h.sl.ent g, fun s hs => ⟨(h.el s hs).1.ent g, fun e he => ((h.el s hs).2 e he).ent g⟩⟩
def fstE : List SE → Bs → Option Bs
  | [], _ => none
  | s :: ls, k => match getE s.xs k with
    | some v => some v
    | none => fstE ls k
theorem fstE_drop {ls : List SE} {i : Nat} {s : SE} (h : ls[i]? = some s) (k : Bs) : fstE (ls.drop i) k = match getE s.xs k with | some v => some v | none => fstE (ls.drop (i + 1)) k := by
  rw [dropG h]
  rfl
end Go.Sx
namespace Go.Sx
open Go
abbrev Pp := Bs × Bs
def keyAt (ls : List (List Pp)) (b : Nat) : Bs := match ls[b]? with
  | some (p :: _) => p.1
  | _ => []
/-- Of the first so many: which one's head is the least (the first of these). -/
def bst (ls : List (List Pp)) : Nat → Option Nat
  | 0 => none
  | j + 1 => match ls[j]? with
    | some (p :: _) => match bst ls j with
      | none => some j
      | some b => if cmp p.1 (keyAt ls b) < 0 then some j else some b
    | _ => bst ls j
def skp (k : Bs) (l : List Pp) : List Pp := l.dropWhile fun p => decide (cmp p.1 k ≤ 0)
def unN : Nat → List (List Pp) → List Pp
  | 0, _ => []
  | n + 1, ls => match bst ls ls.length with
    | none => []
    | some b => match ls[b]? with
      | some (p :: _) => p :: unN n (ls.map (skp p.1))
      | _ => []
def tot (ls : List (List Pp)) : Nat := (ls.map List.length).sum
def unionL (ls : List (List Pp)) : List Pp := unN (tot ls) ls
theorem bst_some : ∀ {j : Nat} {ls : List (List Pp)} {b : Nat}, bst ls j = some b → b < j ∧ ∃ p r, ls[b]? = some (p :: r)
  | 0, ls, b, h => by simp [bst] at h
  | j + 1, ls, b, h => by
    unfold bst at h
    split at h
    · rename_i p r hj
      split at h
      · cases h; exact ⟨by omega, p, r, hj⟩
      · rename_i b' hb'
        split at h
        · cases h; exact ⟨by omega, p, r, hj⟩
        · cases h
          have := bst_some hb'
          exact ⟨by omega, this.2⟩
    · have := bst_some h
      exact ⟨by omega, this.2⟩
theorem skp_le (k : Bs) (l : List Pp) : (skp k l).length ≤ l.length := (List.dropWhile_sublist _).length_le
theorem skp_hd {p : Pp} {r : List Pp} : skp p.1 (p :: r) = skp p.1 r := by simp [skp, cmp_self]
theorem tot_cons (l : List Pp) (ls : List (List Pp)) : tot (l :: ls) = l.length + tot ls := by simp [tot]
theorem tot_skp (k : Bs) : ∀ ls : List (List Pp), tot (ls.map (skp k)) ≤ tot ls
  | [] => Nat.le_refl _
  | l :: ls => by
    have h1 := tot_skp k ls
    have h2 := skp_le k l
    rw [List.map_cons, tot_cons, tot_cons]
    omega
theorem tot_lt {p : Pp} {r : List Pp} : ∀ {ls : List (List Pp)} {b : Nat}, ls[b]? = some (p :: r) → tot (ls.map (skp p.1)) < tot ls
  | [], b, h => by simp at h
  | l :: ls, 0, h => by
    simp only [List.getElem?_cons_zero, Option.some.injEq] at h
    subst h
    have h1 := tot_skp p.1 ls
    have h2 := skp_le p.1 r
    rw [List.map_cons, tot_cons, tot_cons, skp_hd, List.length_cons]
    omega
  | l :: ls, b + 1, h => by
    have h1 := tot_lt (ls := ls) (b := b) (by simpa using h)
    have h2 := skp_le p.1 l
    rw [List.map_cons, tot_cons, tot_cons]
    omega
theorem unN_more : ∀ (n m : Nat) (ls : List (List Pp)), tot ls ≤ n → tot ls ≤ m → unN n ls = unN m ls
  | 0, 0, _, _, _ => rfl
  | 0, m + 1, ls, h, _ => by
    unfold unN
    split
    · rfl
    · rename_i b hb
      obtain ⟨_, p, r, hp⟩ := bst_some hb
      have := tot_lt hp
      omega
  | n + 1, 0, ls, _, h => by
    unfold unN
    split
    · rfl
    · rename_i b hb
      obtain ⟨_, p, r, hp⟩ := bst_some hb
      have := tot_lt hp
      omega
  | n + 1, m + 1, ls, h1, h2 => by
    unfold unN
    split
    · rfl
    · rename_i b hb
      split
      · rename_i p r hp
        have := tot_lt hp
        rw [unN_more n m _ (by omega) (by omega)]
      · rfl
theorem unionL_none {ls : List (List Pp)} (h : bst ls ls.length = none) : unionL ls = [] := by
  unfold unionL
  cases tot ls with
  | zero => rfl
  | succ n => simp [unN, h]
theorem unionL_some {ls : List (List Pp)} {b : Nat} {p : Pp} {r : List Pp} (h : bst ls ls.length = some b) (hp : ls[b]? = some (p :: r)) : unionL ls = p :: unionL (ls.map (skp p.1)) := by
  have h1 := tot_lt hp
  unfold unionL
  obtain ⟨n, hn⟩ : ∃ n, tot ls = n + 1 := ⟨tot ls - 1, by omega⟩
  rw [hn]
  simp only [unN, h, hp]
  rw [unN_more n (tot (ls.map (skp p.1))) _ (by omega) (Nat.le_refl _)]
/-! ### With their addresses -/
def skpK (k : Bs) (l : List KV) : List KV := l.dropWhile fun p => decide (cmp p.k k ≤ 0)
theorem skpK_p (k : Bs) : ∀ l : List KV, (skpK k l).map KV.p = skp k (l.map KV.p)
  | [] => rfl
  | e :: l => by
    have ih := skpK_p k l
    unfold skpK skp at *
    simp only [List.map_cons, List.dropWhile_cons]
    show List.map KV.p (if decide (cmp e.k k ≤ 0) = true then _ else _) = if decide (cmp e.k k ≤ 0) = true then _ else _
    split
    · exact ih
    · rfl
theorem skpK_sub (k : Bs) (l : List KV) : (skpK k l).Sublist l := List.dropWhile_sublist _
theorem skpK_go {k : Bs} {e : KV} {l : List KV} (h : cmp e.k k ≤ 0) : skpK k (e :: l) = skpK k l := by simp [skpK, h]
theorem skpK_no {k : Bs} {e : KV} {l : List KV} (h : ¬ cmp e.k k ≤ 0) : skpK k (e :: l) = e :: l := by simp [skpK, h]
theorem flat_skp (k : Bs) : ∀ F : List (List KV), (F.map (skpK k)).flatten.Sublist F.flatten
  | [] => .slnil
  | l :: F => by simpa using (skpK_sub k l).append (flat_skp k F)
/-- One thing is told; what is left is among the others. -/
theorem flat_told {e : KV} {r : List KV} : ∀ {F : List (List KV)} {b : Nat}, F[b]? = some (e :: r) → ∃ G, F.flatten.Perm (e :: G) ∧ (F.map (skpK e.k)).flatten.Sublist G
  | [], b, h => by simp at h
  | l :: F, 0, h => by
    simp only [List.getElem?_cons_zero, Option.some.injEq] at h
    subst h
    refine ⟨r ++ F.flatten, by simp, ?_⟩
    rw [List.map_cons, List.flatten_cons, skpK_go (by rw [cmp_self]; omega)]
    exact (skpK_sub _ _).append (flat_skp _ _)
  | l :: F, b + 1, h => by
    obtain ⟨G, h1, h2⟩ := flat_told (F := F) (b := b) (by simpa using h)
    refine ⟨l ++ G, ?_, ?_⟩
    · rw [List.flatten_cons]
      exact (h1.append_left l).trans List.perm_middle
    · rw [List.map_cons, List.flatten_cons]
      exact (skpK_sub _ _).append h2
end Go.Sx
