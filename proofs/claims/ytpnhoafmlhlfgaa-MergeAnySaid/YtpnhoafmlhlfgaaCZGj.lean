/- Part of a proof: several parts of a walk, one behind the other. -/
import Derived.Test.YtpnhoafmlhlfgaaCML
import Derived.Test.YtpnhoafmlhlfgaaCKB
import Derived.Test.YtpnhoafmlhlfgaaCQB
import Derived.Test.YtpnhoafmlhlfgaaCO2j
import Derived.Test.YtpnhoafmlhlfgaaCMMj
import Derived.Deep.Upon
namespace Go.Sx
open Go Go.Proofs
set_option maxRecDepth 10000
variable {w0 : World} {H : List Ck}
theorem gnames_s : FnS Try.prog w0 H 3 #[] (fun v K => v = .bool true ∧ K = H) := by
  refine fns_enter (args := []) Try.func3 rfl rfl rfl ?_
  refine sx ?_
  refine s_call rfl gawake_s ?_
  rintro _ _ ⟨rfl, rfl⟩
  refine ⟨chk_seq, ?_⟩
  refine sx ?_
  exact s_ret1 rfl rfl ⟨rfl, rfl⟩
end Go.Sx
namespace Go.Sx
open Go
def kf (k : Bs) (e : KV) : Bool := decide (e.k = k)
/-- The same, and of each key in the same order. -/
structure Stb (l m : List KV) : Prop where
  perm : l.Perm m
  eq : ∀ k, l.filter (kf k) = m.filter (kf k)
theorem Stb.refl (l : List KV) : Stb l l := ⟨.refl _, fun _ => rfl⟩
theorem Stb.trans {l m n : List KV} (h1 : Stb l m) (h2 : Stb m n) : Stb l n := ⟨h1.perm.trans h2.perm, fun k => (h1.eq k).trans (h2.eq k)⟩
theorem Stb.app {l m l' m' : List KV} (h1 : Stb l m) (h2 : Stb l' m') : Stb (l ++ l') (m ++ m') := ⟨h1.perm.append h2.perm, fun k => by rw [List.filter_append, List.filter_append, h1.eq, h2.eq]⟩
theorem Stb.len {l m : List KV} (h : Stb l m) : l.length = m.length := h.perm.length_eq
theorem Stb.swap {u v : List KV} (h : ∀ a ∈ u, ∀ b ∈ v, a.k ≠ b.k) : Stb (u ++ v) (v ++ u) := ⟨List.perm_append_comm, fun k => by
  rw [List.filter_append, List.filter_append]
  by_cases g : ∃ a ∈ u, a.k = k
  · obtain ⟨a, ha, rfl⟩ := g
    have : v.filter (kf a.k) = [] := List.filter_eq_nil_iff.2 fun b hb => by
      simp only [kf, decide_eq_true_eq]
      exact fun e => h a ha b hb e.symm
    rw [this]; simp
  · have : u.filter (kf k) = [] := List.filter_eq_nil_iff.2 fun a ha => by
      simp only [kf, decide_eq_true_eq]
      exact fun e => g ⟨a, ha, e⟩
    rw [this]; simp⟩
def Asc (l : List KV) : Prop := l.Pairwise fun a b => cmp a.k b.k ≤ 0
theorem Asc.nil : Asc [] := List.Pairwise.nil
theorem Asc.one (e : KV) : Asc [e] := List.pairwise_singleton _ _
theorem asc_app {l m : List KV} : Asc (l ++ m) ↔ Asc l ∧ Asc m ∧ ∀ a ∈ l, ∀ b ∈ m, cmp a.k b.k ≤ 0 := List.pairwise_append
theorem Asc.sub {l m : List KV} (h : Asc l) (hs : m.Sublist l) : Asc m := List.Pairwise.sublist hs h
theorem Asc.le {l : List KV} (h : Asc l) {i j : Nat} {a b : KV} (hij : i ≤ j) (ha : l[i]? = some a) (hb : l[j]? = some b) : cmp a.k b.k ≤ 0 := by
  rcases Nat.lt_or_eq_of_le hij with g | rfl
  · obtain ⟨h1, e1⟩ := List.getElem?_eq_some_iff.1 ha
    obtain ⟨h2, e2⟩ := List.getElem?_eq_some_iff.1 hb
    rw [← e1, ← e2]
    exact List.pairwise_iff_getElem.1 h i j h1 h2 g
  · rw [ha] at hb; cases hb; rw [cmp_self]; omega
/-- Two stretches that have changed places. -/
def Swp (xs : List KV) (a b n : Nat) (ys : List KV) : Prop := ys.length = xs.length ∧ ∀ k, k < xs.length → ys[k]? = if a ≤ k ∧ k < a + n then xs[k + (b - a)]? else if b ≤ k ∧ k < b + n then xs[k - (b - a)]? else xs[k]?
theorem Swp.parts {x u y v z ys : List KV} {a b n : Nat} (ha : a = x.length) (hb : b = x.length + u.length + y.length) (hn : u.length = n) (hv : v.length = n) (h : Swp (x ++ (u ++ (y ++ (v ++ z)))) a b n ys) : ys = x ++ (v ++ (y ++ (u ++ z))) := by
  subst ha; subst hb; subst hn
  obtain ⟨h1, h2⟩ := h
  apply List.ext_getElem?
  intro k
  by_cases hk : k < (x ++ (u ++ (y ++ (v ++ z)))).length
  · rw [h2 k hk]
    simp only [List.length_append] at hk
    simp only [List.getElem?_append]
    repeat' split
    all_goals first
      | rfl
      | (exfalso; omega)
      | (congr 1; omega)
  · rw [List.getElem?_eq_none (by omega), List.getElem?_eq_none (by simp only [List.length_append] at *; omega)]
/-- All of the first ones of one list lie below all of the last ones of another. -/
theorem lt_of_ends {A B : List KV} {p q : Nat} (hA : Asc A) (hB : Asc B) (h : ∀ a b, A[p]? = some a → 0 < q → B[q - 1]? = some b → cmp b.k a.k < 0) (hq : q ≤ B.length) : ∀ b ∈ B.take q, ∀ a ∈ A.drop p, cmp b.k a.k < 0 := by
  intro b hb a ha
  obtain ⟨i, hi⟩ := List.getElem?_of_mem hb
  obtain ⟨j, hj⟩ := List.getElem?_of_mem ha
  rw [List.getElem?_drop] at hj
  rw [List.getElem?_take] at hi
  split at hi
  · rename_i g
    have hjl := (List.getElem?_eq_some_iff.1 hj).1
    have h1 : p < A.length := by omega
    have h2 : q - 1 < B.length := by omega
    have h3 := h _ _ (List.getElem?_eq_getElem h1) (by omega) (List.getElem?_eq_getElem h2)
    have h4 := hA.le (by omega : p ≤ p + j) (List.getElem?_eq_getElem h1) hj
    have h5 := hB.le (by omega : i ≤ q - 1) hi (List.getElem?_eq_getElem h2)
    exact tr_lt h5 (lt_tr h3 h4)
  · cases hi
theorem le_of_ends {A B : List KV} {p q : Nat} (hA : Asc A) (hB : Asc B) (h : ∀ a b, 0 < p → A[p - 1]? = some a → B[q]? = some b → cmp a.k b.k ≤ 0) (hp : p ≤ A.length) : ∀ a ∈ A.take p, ∀ b ∈ B.drop q, cmp a.k b.k ≤ 0 := by
  intro a ha b hb
  obtain ⟨i, hi⟩ := List.getElem?_of_mem ha
  obtain ⟨j, hj⟩ := List.getElem?_of_mem hb
  rw [List.getElem?_drop] at hj
  rw [List.getElem?_take] at hi
  split at hi
  · rename_i g
    have hjl := (List.getElem?_eq_some_iff.1 hj).1
    have h1 : p - 1 < A.length := by omega
    have h2 : q < B.length := by omega
    have h3 := h _ _ (by omega) (List.getElem?_eq_getElem h1) (List.getElem?_eq_getElem h2)
    have h4 := hA.le (by omega : i ≤ p - 1) hi (List.getElem?_eq_getElem h1)
    have h5 := hB.le (by omega : q ≤ q + j) (List.getElem?_eq_getElem h2) hj
    exact le_tr h4 (le_tr h3 h5)
  · cases hi
/-- What a merge makes of two lists that rise. -/
structure Mrg (l s : List KV) : Prop where
  st : Stb l s
  up : Asc s
theorem Mrg.parts {A1 A2 B1 B2 s1 s2 : List KV} (hA : Asc (A1 ++ A2)) (hB : Asc (B1 ++ B2)) (h1 : ∀ b ∈ B1, ∀ a ∈ A2, cmp b.k a.k < 0) (h2 : ∀ a ∈ A1, ∀ b ∈ B2, cmp a.k b.k ≤ 0) (m1 : Mrg (A1 ++ B1) s1) (m2 : Mrg (A2 ++ B2) s2) : Mrg ((A1 ++ A2) ++ (B1 ++ B2)) (s1 ++ s2) := by
  obtain ⟨a1, a2, a3⟩ := asc_app.1 hA
  obtain ⟨b1, b2, b3⟩ := asc_app.1 hB
  constructor
  · have e1 : Stb ((A1 ++ A2) ++ (B1 ++ B2)) ((A1 ++ B1) ++ (A2 ++ B2)) := by
      have := (Stb.refl A1).app ((Stb.swap (u := A2) (v := B1) fun a ha b hb e => by have := h1 b hb a ha; rw [e, cmp_self] at this; omega).app (Stb.refl B2))
      simpa only [List.append_assoc] using this
    exact e1.trans (m1.st.app m2.st)
  · refine asc_app.2 ⟨m1.up, m2.up, fun a ha b hb => ?_⟩
    rcases List.mem_append.1 (m1.st.perm.mem_iff.2 ha) with ha | ha <;> rcases List.mem_append.1 (m2.st.perm.mem_iff.2 hb) with hb | hb
    · exact a3 a ha b hb
    · exact h2 a ha b hb
    · have := h1 a ha b hb; omega
    · exact b3 a ha b hb
theorem Mrg.ins {u s1 s2 : List KV} {e : KV} (h : Mrg u (s1 ++ s2)) (h1 : ∀ y ∈ s1, cmp y.k e.k ≤ 0) (h2 : ∀ y ∈ s2, cmp e.k y.k < 0) : Mrg (u ++ [e]) (s1 ++ e :: s2) := by
  constructor
  · have e1 := (h.st.app (Stb.refl [e])).trans (show Stb ((s1 ++ s2) ++ [e]) (s1 ++ e :: s2) from by
      have := (Stb.refl s1).app (Stb.swap (u := s2) (v := [e]) fun a ha b hb g => by
        rw [List.mem_singleton.1 hb] at g
        have := h2 a ha
        rw [g, cmp_self] at this; omega)
      simpa only [List.append_assoc, List.singleton_append] using this)
    exact e1
  · obtain ⟨a1, a2, a3⟩ := asc_app.1 h.up
    refine asc_app.2 ⟨a1, List.pairwise_cons.2 ⟨fun y hy => by have := h2 y hy; omega, a2⟩, fun a ha b hb => ?_⟩
    rcases List.mem_cons.1 hb with rfl | hb
    · exact h1 a ha
    · exact a3 a ha b hb
theorem Mrg.refl {l : List KV} (h : Asc l) : Mrg l l := ⟨Stb.refl l, h⟩
theorem set_sw (P Q : List KV) (d e : KV) : ((P ++ d :: e :: Q).set (P.length + 1) d).set P.length e = P ++ e :: d :: Q := by
  induction P with
  | nil => rfl
  | cons a P ih => simp only [List.cons_append, List.length_cons, List.set_cons_succ, ih]
theorem set_sw2 (P Q : List KV) (d e : KV) : ((P ++ d :: e :: Q).set P.length e).set (P.length + 1) d = P ++ e :: d :: Q := by
  induction P with
  | nil => rfl
  | cons a P ih => simp only [List.cons_append, List.length_cons, List.set_cons_succ, ih]
theorem get_mid (P Q : List KV) (d : KV) : (P ++ d :: Q)[P.length]? = some d := by simp
theorem get_mid1 (P Q : List KV) (d e : KV) : (P ++ d :: e :: Q)[P.length + 1]? = some e := by
  rw [List.getElem?_append_right (by omega)]
  simp
/-- All stretches of so many rise. -/
def Blk (B : Nat) (l : List KV) : Prop := ∀ k, Asc ((l.drop (k * B)).take B)
theorem Blk.nil {B : Nat} : Blk B [] := fun k => by simp [Asc.nil]
theorem Blk.asc {B : Nat} {l : List KV} (h : Blk B l) (hl : l.length ≤ B) : Asc l := by
  have := h 0
  rwa [Nat.zero_mul, List.drop_zero, List.take_of_length_le hl] at this
theorem Blk.drop {B j : Nat} {l : List KV} (h : Blk B l) : Blk B (l.drop (j * B)) := fun k => by
  have := h (j + k)
  rwa [Nat.add_mul, ← List.drop_drop] at this
theorem Blk.app {B m : Nat} {l s : List KV} (hl : l.length = m * B) (h : Blk B l) (hs : Asc s) (hn : s.length ≤ B) : Blk B (l ++ s) := fun k => by
  by_cases g : k < m
  · have e : (k + 1) * B ≤ m * B := Nat.mul_le_mul_right _ g
    rw [Nat.add_mul, Nat.one_mul] at e
    rw [List.drop_append_of_le_length (by omega), List.take_append_of_le_length (by rw [List.length_drop]; omega)]
    exact h k
  · have e : m * B ≤ k * B := Nat.mul_le_mul_right _ (by omega)
    have : (l ++ s).drop (k * B) = s.drop (k * B - m * B) := by
      rw [List.drop_append, List.drop_of_length_le (by omega), hl]; rfl
    rw [this]
    exact hs.sub ((List.take_sublist _ _).trans (List.drop_sublist _ _))
end Go.Sx
namespace Go.Sx
open Go Go.Proofs
set_option maxRecDepth 10000
variable {w0 : World} {H : List Ck}
structure RoI where
  L : List KV
  A : List KV
  B : List KV
  R : List KV
end Go.Sx
namespace Go.Sx
open Go Go.Proofs
set_option maxRecDepth 10000
variable {w0 : World} {H : List Ck}
structure InI where
  u : List KV
  s : List KV
  t : List KV
end Go.Sx
namespace Go.Sx
open Go Go.Proofs
set_option maxRecDepth 10000
variable {w0 : World} {H : List Ck}
abbrev MgR (a : Option Addr) (c : Nat) (x l z : List KV) (H : List Ck) : Value → List Ck → Prop := fun v H' => v = .tuple #[] ∧ ∃ s, Mrg l s ∧ H' = ol 36 a c (x ++ (s ++ z)) :: H
/-- What is asked ahead of a merge. -/
structure MgA (w0 : World) (H : List Ck) (p m q : Nat) (x A B z : List KV) : Prop where
  hp : p = x.length
  hm : m = x.length + A.length
  hq : q = x.length + A.length + B.length
  a0 : 0 < A.length
  b0 : 0 < B.length
  aA : Asc A
  aB : Asc B
  hr : ∀ e ∈ A ++ B, RBy w0 H e.ka e.kc e.k
  hl : x.length + A.length + B.length + z.length ≤ 1099511627776
theorem MgA.at {p m q : Nat} {x A B z : List KV} (h : MgA w0 H p m q x A B z) {xs : List KV} (hxs : xs = x ++ (A ++ (B ++ z))) :
    xs.length = p + A.length + B.length + z.length ∧ (∀ i, i < A.length → xs[p + i]? = A[i]?) ∧ (∀ i, i < B.length → xs[m + i]? = B[i]?) := by
  have h1 := h.hp
  have h2 := h.hm
  subst hxs
  refine ⟨by simp only [List.length_append]; omega, fun i hi => ?_, fun i hi => ?_⟩
  · rw [List.getElem?_append_right (by omega), List.getElem?_append_left (by omega)]
    congr 1; omega
  · rw [List.getElem?_append_right (by omega), List.getElem?_append_right (by omega), List.getElem?_append_left (by omega)]
    congr 1; omega
end Go.Sx
namespace Go.Sx
open Go Go.Proofs
set_option maxRecDepth 10000
variable {w0 : World} {H : List Ck}
theorem mem4a {A1 A2 B1 B2 : List KV} {y : KV} (h : y ∈ A1 ++ B1) : y ∈ (A1 ++ A2) ++ (B1 ++ B2) := by
  rcases List.mem_append.1 h with h | h <;> simp [h]
theorem mem4b {A1 A2 B1 B2 : List KV} {y : KV} (h : y ∈ A2 ++ B2) : y ∈ (A1 ++ A2) ++ (B1 ++ B2) := by
  rcases List.mem_append.1 h with h | h <;> simp [h]
theorem s_joinS {l : List KV} {P : ∀ s : List KV, Mrg l s → Prop} {G : Prop} (main : KeyU (∀ s h, P s h) → G) (key : ∀ s h, P s h) : G := main ⟨key⟩
end Go.Sx
namespace Go.Sx
open Go Go.Proofs
set_option maxRecDepth 10000
variable {w0 : World} {H : List Ck}
theorem slice_len {a : Option Addr} {c n m : Nat} (h : n = m) : Value.slice a n c = Value.slice a m c := by rw [h]
structure StI where
  k : Nat
  P : List KV
  Q : List KV
end Go.Sx
namespace Go.Sx
open Go Go.Proofs
set_option maxRecDepth 10000
variable {w0 : World} {H : List Ck}
abbrev kv0 : KV := ⟨none, 0, [], none, 0, []⟩
def RiE (l : List KV) : Prop := l.Pairwise fun a b => cmp a.k b.k < 0
theorem RiE.lt {l : List KV} (h : RiE l) {i j : Nat} {a b : KV} (hij : i < j) (ha : l[i]? = some a) (hb : l[j]? = some b) : cmp a.k b.k < 0 := by
  obtain ⟨h1, e1⟩ := List.getElem?_eq_some_iff.1 ha
  obtain ⟨h2, e2⟩ := List.getElem?_eq_some_iff.1 hb
  rw [← e1, ← e2]
  exact List.pairwise_iff_getElem.1 h i j h1 h2 hij
/-- Where a key is among entries that rise. -/
structure At1 (xs : List KV) (key : Bs) (i : Nat) (is : Bool) : Prop where
  le : i ≤ xs.length
  lo : ∀ k y, k < i → xs[k]? = some y → cmp y.k key < 0
  hi : ∀ k y, i ≤ k → xs[k]? = some y → 0 ≤ cmp y.k key
  is : is = true ↔ ∃ y, xs[i]? = some y ∧ y.k = key
section
variable {M : Md} {P : Program} {n : Nat} {ds : Dx} {ops : Array Oper} {Q : Exit → Act → World → Prop} {rest : Tr} {l : List (Nat × Value)} {b : Bool} {ty : TypeId} {pos : String} {af : Array Edge} {g : Option (Nat × Bool)}
/-- Nothing is appended. -/
theorem s_app0 {d : Nat} {T E : TypeId} {sz by' : Nat} [hT : SlT P T E sz by'] {s x : Operand} {a a2 : Option Addr} {p c c2 : Nat} (hs : ev l s = some (.slice a p c)) (hx : ev l x = some (.slice a2 0 c2)) (hp : p ≤ c) (h : SL M P n ds ops Q rest ((d, .slice a p c) :: l) w0 H)
    (hb : M.act b = true := by exact rfl) (hg : gOk ops l g = true := by exact rfl) (hd : Nat.blt d n = true := by exact rfl) (hk : Chk M H := by intros; first | exact chk_seq | exact chk_held (by exact entq) | exact chk_held (by exact ent)) :
    SL M P n ds ops Q (.one b ⟨some d, .call { callee := .builtin .append, args := #[s, x], argTypes := #[T, T] }, ty, pos, af, g⟩ rest) l w0 H := .mk fun w hw => by
  obtain ⟨i, z, i1, i2, i3, i4, i5⟩ := hT.info
  have r : (Builtin.append_ #[T, T] ty #[.slice a p c, .slice a2 0 c2]).run P w = .ok (.slice a p c) w := by
    refine run_append_nothing w T T ty E i hT.und i1 a p c hp _ ?_
    cases a2 with
    | none => exact Src.ofNil w hT.und c2
    | some ad => exact Src.ofSlice w hT.und ad 0 c2 [] (by simp) (fun j u h => by simp at h) (fun u h => by cases h)
  exact l_e (Md.any hb) hg hd (fun ρ hρ => by simp [execOp, resolve, invoke, builtin, hρ _ _ hs, hρ _ _ hx, r]) (hk.out hw) (h.out w hw)
variable {α : Type} [Cel α]
/-- append(s, x...), s the first p of a list of one's own, in its place. -/
theorem s_appR {d : Nat} {T E : TypeId} {sz by' : Nat} [hT : SlT P T E sz by'] {s x : Operand} {a a2 : Option Addr} {c c2 p m : Nat} {xs ys : List α} {H' : List Ck}
    (hin : SL M P n ds ops Q rest ((d, .slice a (p + ys.length) c) :: l) w0 H') (hc : p + ys.length ≤ c)
    (hs : ev l s = some (.slice a p c) := by exact rfl) (hx : ev l x = some (.slice a2 m c2) := by exact rfl) (hsrc : RSl w0 H a2 c2 ys := by exact rsl) (hm : m = ys.length := by first | exact rfl | omega | simp) (hne : 0 < ys.length := by first | exact Nat.one_pos | omega | simp)
    (hA : At (ol E a c xs) (ol E a c (putL xs p ys)) H H' := by exact at_) (hp : p ≤ xs.length := by omega)
    (hb : M.act b = true := by exact rfl) (hg : gOk ops l g = true := by exact rfl) (hd : Nat.blt d n = true := by exact rfl) (hz : sz = Cel.sz α := by exact rfl) (hk : Chk M H' := by intros; first | exact chk_seq | exact chk_held (by exact entq) | exact chk_held (by exact ent)) :
    SL M P n ds ops Q (.one b ⟨some d, .call { callee := .builtin .append, args := #[s, x], argTypes := #[T, T] }, ty, pos, af, g⟩ rest) l w0 H := .mk fun w hw => by
  subst hz
  subst hm
  have hS := (hsrc w hw).src
  cases a2 with
  | none =>
    have := hS.1 rfl
    have hl := congrArg List.length this
    rw [flat_length] at hl
    rcases Nat.mul_eq_zero.1 hl with h | h
    · omega
    · have := Cel.pos (α := α); omega
  | some ad =>
    have ho := Sat.ownOf hA hw
    have hpz : p * Cel.sz α ≤ xs.length * Cel.sz α := Nat.mul_le_mul_right _ hp
    rcases ho.open with ⟨h0, _, h0', _⟩ | ⟨k, re, e1, e2, e3, e4, e5, e6⟩
    · omega
    · subst e1
      have hle : (p + ys.length) * Cel.sz α ≤ c * Cel.sz α := Nat.mul_le_mul_right _ hc
      rw [Nat.add_mul] at hle
      have hfl := flat_length xs
      have hyl := flat_length ys
      obtain ⟨w', r1, r2, r3⟩ := app_room (P := P) (T := T) (c2 := c2) (p := p) (c := c) ty e3 (hS.2 ad rfl) (flat_length ys) (flat_oneC ys) hc (by rw [List.length_append]; omega)
      have hpl := putL_len (ys := ys) hp
      have hB : HB w' k E (flat (putL xs p ys) ++ re.drop (p * Cel.sz α + (flat ys).length - (flat xs).length)) := by
        have e : (flat xs ++ re).take (p * Cel.sz α) ++ flat ys ++ (flat xs ++ re).drop (p * Cel.sz α + (flat ys).length) = flat (putL xs p ys) ++ re.drop (p * Cel.sz α + (flat ys).length - (flat xs).length) := by
          rw [putL, flat_app, flat_app, flat_take, flat_drop, List.take_append_of_le_length (by omega), List.drop_append, Nat.add_mul, ← hyl, List.append_assoc, List.append_assoc, List.append_assoc]
        rw [← e]
        exact r2
      have hO : Own w' w0.heap.size E (Cel.sz α) (some ⟨k, 0, none⟩) (putL xs p ys).length c (flat (putL xs p ys)) := by
        refine Own.mk' e2 hB (flat_length _) (by rw [hpl]; omega) e5 ?_
        rw [flat_length, hpl, List.length_drop]
        rw [hfl, hyl]
        rw [hfl] at e6
        rcases Nat.le_total xs.length (p + ys.length) with h | h
        · rw [Nat.max_eq_right h, Nat.add_mul]
          have := Nat.mul_le_mul_right (Cel.sz α) h
          rw [Nat.add_mul] at this
          omega
        · rw [Nat.max_eq_left h]
          have := Nat.mul_le_mul_right (Cel.sz α) h
          rw [Nat.add_mul] at this
          omega
      have hw' := hw.own hA hO (r3.mono fun i _ e => by rw [e]; rfl) (fun ad' e => by cases e; exact .inl rfl)
      exact l_e (Md.any hb) hg hd (fun ρ hρ => by simp [execOp, resolve, invoke, builtin, hρ _ _ hs, hρ _ _ hx, r1]) (hk.out hw') (hin.out w' hw')
end
end Go.Sx
