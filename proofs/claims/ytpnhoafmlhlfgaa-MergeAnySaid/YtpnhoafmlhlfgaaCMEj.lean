/- Part of a proof: several parts of a walk, one behind the other. -/
import Derived.Test.YtpnhoafmlhlfgaaCMC
import Derived.Test.YtpnhoafmlhlfgaaCQB
import Derived.Test.YtpnhoafmlhlfgaaCMMj
namespace Go.Sx
open Go Go.Proofs
set_option maxRecDepth 10000
variable {w0 : World} {H : List Ck}
/-- A function (none: nil). -/
structure Fu where
  o : Option (Nat × List Value)
@[reducible] def Fu.val (x : Fu) : Value := match x.o with
  | none => .nilFunc
  | some (k, cap) => .func (.func k) #[] cap.toArray
instance : Cel Fu := ⟨1, fun x => [x.val], fun _ => rfl, fun x => by obtain ⟨_ | ⟨k, cap⟩⟩ := x <;> rfl, Nat.one_pos⟩
instance : ElT Try.prog 29 Fu := ⟨trivial⟩
/-- An address of a block. -/
structure Pb where
  b : Nat
@[reducible] def Pb.val (x : Pb) : Value := .pointer (some ⟨x.b, 0, none⟩)
instance : Cel Pb := ⟨1, fun x => [x.val], fun _ => rfl, fun _ => rfl, Nat.one_pos⟩
instance : ElT Try.prog 73 Pb := ⟨trivial⟩
theorem FnV.rm {P : Program} {c : Ck} {H R : List Ck} {k : FuncId} {args : Array Value} {v : Value} (hr : Rm c H R) (h : FnV P w0 (c :: R) k args v) : FnV P w0 H k args v :=
  FnS.post (FnS.ent h (Ent.perm hr.out)) fun _ _ ⟨h1, h2⟩ => ⟨H, ⟨h1, rfl⟩, by subst h2; exact Ent.perm hr.out.symm⟩
theorem hok_s {b c : Nat} {a : Option Addr} {es : List KV} : FnV Try.prog w0 (.hb b 75 [.slice a es.length c] :: H) 34 #[.pointer (some ⟨b, 0, none⟩)] (.bool (decide ((0 : Int) < es.length))) := by
  refine fns_enter Try.func34 rfl rfl rfl ?_
  refine sx ?_
  exact s_ret1 rfl rfl ⟨rfl, rfl⟩
theorem hstep_s {b c : Nat} {a : Option Addr} {e : KV} {es : List KV} (h : RSl w0 H a c (e :: es)) : FnS Try.prog w0 (.hb b 75 [.slice a (es.length + 1 : Nat) c] :: H) 35 #[.pointer (some ⟨b, 0, none⟩)]
    (fun v H' => v = .tuple #[] ∧ H' = .hb b 75 [.slice (sl a c 1 2) es.length (c - 1)] :: H) := by
  refine fns_enter Try.func35 rfl rfl rfl ?_
  refine s_kn (Kn.sl h).tl fun ⟨l1, l2⟩ => ?_
  simp only [List.length_cons] at l1
  refine sx ?_
  refine s_yS rfl rfl rfl (y_slF (k := 1) rfl rfl (by omega)) ?_
  refine sx ?_
  exact s_end0 rfl ⟨rfl, rfl⟩
theorem clone_s {a : Option Addr} {c : Nat} {xs : List Fu} (hx : RSl w0 H a c xs) (hl : xs.length ≤ 5864062014805) : FnS Try.prog w0 H 32 #[.slice a xs.length c] (fun v H' => ∃ a' c', v = .slice a' xs.length c' ∧ H' = ol 29 a' c' xs :: H) := by
  refine fns_enter Try.func32 rfl rfl rfl ?_
  refine sx ?_
  refine s_cond rfl (fun t1 => ?_) (fun t1 => ?_)
  · refine s_kn (φ := xs = []) (fun w hw => ?_) fun e => ?_
    · have h := hx w hw
      have h1 := h.nil (by simpa using t1)
      exact List.eq_nil_of_length_eq_zero (by have := h.le; omega)
    subst e
    refine sx ?_
    exact s_ret1 rfl rfl ⟨none, 0, rfl, rfl⟩ Ent.nilS
  refine sx ?_
  refine s_bsl ([] : List Fu) rfl rfl fun b1 => ?_
  refine sx ?_
  refine s_app (ys := xs) ?_
  intro a1 c1
  refine sx ?_
  exact s_ret1 rfl rfl ⟨a1, c1, rfl, rfl⟩
@[reducible] def unL (b : Nat) (a : Option Addr) (c : Nat) (fs : List Fu) : List Ck := [.hb b 27 [.slice a fs.length c], ol 29 a c fs]
theorem union_s {a : Option Addr} {c : Nat} {fs : List Fu} (hx : RSl w0 H a c fs) (hl : fs.length ≤ 5864062014805) : FnS Try.prog w0 H 11 #[.slice a fs.length c] (fun v H' => ∃ b a' c', v = .func (.func 33) #[] #[.pointer (some ⟨b, 0, none⟩)] ∧ H' = unL b a' c' fs ++ H) := by
  refine fns_enter Try.func11 rfl rfl rfl ?_
  refine sx ?_
  refine s_call rfl (clone_s hx hl) ?_
  rintro _ _ ⟨a1, c1, rfl, rfl⟩
  refine ⟨chk_seq, ?_⟩
  refine sx ?_
  refine s_alloc fun b3 => ?_
  refine sx ?_
  exact s_ret1 rfl rfl ⟨b3, a1, c1, rfl, rfl⟩
end Go.Sx
namespace Go.Sx
open Go
abbrev Pp := Bs × Bs
def keyAt (ls : List (List Pp)) (b : Nat) : Bs := match ls[b]? with
  | some (p :: _) => p.1
  | _ => []
/-- Of the first so many: which one's head is the least (the first of these). -/
def bst (ls : List (List Pp)) : Nat → Option Nat
  | 0 => none
  | j + 1 => match ls[j]? with
    | some (p :: _) => match bst ls j with
      | none => some j
      | some b => if cmp p.1 (keyAt ls b) < 0 then some j else some b
    | _ => bst ls j
def skp (k : Bs) (l : List Pp) : List Pp := l.dropWhile fun p => decide (cmp p.1 k ≤ 0)
def unN : Nat → List (List Pp) → List Pp
  | 0, _ => []
  | n + 1, ls => match bst ls ls.length with
    | none => []
    | some b => match ls[b]? with
      | some (p :: _) => p :: unN n (ls.map (skp p.1))
      | _ => []
def tot (ls : List (List Pp)) : Nat := (ls.map List.length).sum
def unionL (ls : List (List Pp)) : List Pp := unN (tot ls) ls
theorem bst_some : ∀ {j : Nat} {ls : List (List Pp)} {b : Nat}, bst ls j = some b → b < j ∧ ∃ p r, ls[b]? = some (p :: r)
  | 0, ls, b, h => by simp [bst] at h
  | j + 1, ls, b, h => by
    unfold bst at h
    split at h
    · rename_i p r hj
      split at h
      · cases h; exact ⟨by omega, p, r, hj⟩
      · rename_i b' hb'
        split at h
        · cases h; exact ⟨by omega, p, r, hj⟩
        · cases h
          have := bst_some hb'
          exact ⟨by omega, this.2⟩
    · have := bst_some h
      exact ⟨by omega, this.2⟩
theorem skp_le (k : Bs) (l : List Pp) : (skp k l).length ≤ l.length := (List.dropWhile_sublist _).length_le
theorem skp_hd {p : Pp} {r : List Pp} : skp p.1 (p :: r) = skp p.1 r := by simp [skp, cmp_self]
theorem tot_cons (l : List Pp) (ls : List (List Pp)) : tot (l :: ls) = l.length + tot ls := by simp [tot]
theorem tot_skp (k : Bs) : ∀ ls : List (List Pp), tot (ls.map (skp k)) ≤ tot ls
  | [] => Nat.le_refl _
  | l :: ls => by
    have h1 := tot_skp k ls
    have h2 := skp_le k l
    rw [List.map_cons, tot_cons, tot_cons]
    omega
theorem tot_lt {p : Pp} {r : List Pp} : ∀ {ls : List (List Pp)} {b : Nat}, ls[b]? = some (p :: r) → tot (ls.map (skp p.1)) < tot ls
  | [], b, h => by simp at h
  | l :: ls, 0, h => by
    simp only [List.getElem?_cons_zero, Option.some.injEq] at h
    subst h
    have h1 := tot_skp p.1 ls
    have h2 := skp_le p.1 r
    rw [List.map_cons, tot_cons, tot_cons, skp_hd, List.length_cons]
    omega
  | l :: ls, b + 1, h => by
    have h1 := tot_lt (ls := ls) (b := b) (by simpa using h)
    have h2 := skp_le p.1 l
    rw [List.map_cons, tot_cons, tot_cons]
    omega
theorem unN_more : ∀ (n m : Nat) (ls : List (List Pp)), tot ls ≤ n → tot ls ≤ m → unN n ls = unN m ls
  | 0, 0, _, _, _ => rfl
  | 0, m + 1, ls, h, _ => by
    unfold unN
    split
    · rfl
    · rename_i b hb
      obtain ⟨_, p, r, hp⟩ := bst_some hb
      have := tot_lt hp
      omega
  | n + 1, 0, ls, _, h => by
    unfold unN
    split
    · rfl
    · rename_i b hb
      obtain ⟨_, p, r, hp⟩ := bst_some hb
      have := tot_lt hp
      omega
  | n + 1, m + 1, ls, h1, h2 => by
    unfold unN
    split
    · rfl
    · rename_i b hb
      split
      · rename_i p r hp
        have := tot_lt hp
        rw [unN_more n m _ (by omega) (by omega)]
      · rfl
theorem unionL_none {ls : List (List Pp)} (h : bst ls ls.length = none) : unionL ls = [] := by
  unfold unionL
  cases tot ls with
  | zero => rfl
  | succ n => simp [unN, h]
theorem unionL_some {ls : List (List Pp)} {b : Nat} {p : Pp} {r : List Pp} (h : bst ls ls.length = some b) (hp : ls[b]? = some (p :: r)) : unionL ls = p :: unionL (ls.map (skp p.1)) := by
  have h1 := tot_lt hp
  unfold unionL
  obtain ⟨n, hn⟩ : ∃ n, tot ls = n + 1 := ⟨tot ls - 1, by omega⟩
  rw [hn]
  simp only [unN, h, hp]
  rw [unN_more n (tot (ls.map (skp p.1))) _ (by omega) (Nat.le_refl _)]
/-! ### With their addresses -/
def skpK (k : Bs) (l : List KV) : List KV := l.dropWhile fun p => decide (cmp p.k k ≤ 0)
theorem skpK_p (k : Bs) : ∀ l : List KV, (skpK k l).map KV.p = skp k (l.map KV.p)
  | [] => rfl
  | e :: l => by
    have ih := skpK_p k l
    unfold skpK skp at *
    simp only [List.map_cons, List.dropWhile_cons]
    show List.map KV.p (if decide (cmp e.k k ≤ 0) = true then _ else _) = if decide (cmp e.k k ≤ 0) = true then _ else _
    split
    · exact ih
    · rfl
theorem skpK_sub (k : Bs) (l : List KV) : (skpK k l).Sublist l := List.dropWhile_sublist _
theorem skpK_go {k : Bs} {e : KV} {l : List KV} (h : cmp e.k k ≤ 0) : skpK k (e :: l) = skpK k l := by simp [skpK, h]
theorem skpK_no {k : Bs} {e : KV} {l : List KV} (h : ¬ cmp e.k k ≤ 0) : skpK k (e :: l) = e :: l := by simp [skpK, h]
theorem flat_skp (k : Bs) : ∀ F : List (List KV), (F.map (skpK k)).flatten.Sublist F.flatten
  | [] => .slnil
  | l :: F => by simpa using (skpK_sub k l).append (flat_skp k F)
/-- One thing is told; what is left is among the others. -/
theorem flat_told {e : KV} {r : List KV} : ∀ {F : List (List KV)} {b : Nat}, F[b]? = some (e :: r) → ∃ G, F.flatten.Perm (e :: G) ∧ (F.map (skpK e.k)).flatten.Sublist G
  | [], b, h => by simp at h
  | l :: F, 0, h => by
    simp only [List.getElem?_cons_zero, Option.some.injEq] at h
    subst h
    refine ⟨r ++ F.flatten, by simp, ?_⟩
    rw [List.map_cons, List.flatten_cons, skpK_go (by rw [cmp_self]; omega)]
    exact (skpK_sub _ _).append (flat_skp _ _)
  | l :: F, b + 1, h => by
    obtain ⟨G, h1, h2⟩ := flat_told (F := F) (b := b) (by simpa using h)
    refine ⟨l ++ G, ?_, ?_⟩
    · rw [List.flatten_cons]
      exact (h1.append_left l).trans List.perm_middle
    · rw [List.map_cons, List.flatten_cons]
      exact (skpK_sub _ _).append h2
end Go.Sx
