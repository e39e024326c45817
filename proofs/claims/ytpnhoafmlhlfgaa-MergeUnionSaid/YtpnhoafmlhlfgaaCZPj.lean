/- Part of a proof: several parts of a walk, one behind the other. -/
import Derived.Test.YtpnhoafmlhlfgaaCZH
import Derived.Test.YtpnhoafmlhlfgaaCO2
import Derived.Test.YtpnhoafmlhlfgaaCKB
namespace Go.Sx
open Go
def mrg (key : Int → Bs) : Nat → List Int → List Int → List Int
  | 0, a, b => a ++ b
  | _ + 1, [], b => b
  | _ + 1, a, [] => a
  | n + 1, x :: a, y :: b => if cmp (key x) (key y) ≤ 0 then x :: mrg key n a (y :: b) else y :: mrg key n (x :: a) b
abbrev mrgL (key : Int → Bs) (a b : List Int) : List Int := mrg key (a.length + b.length) a b
theorem mrg_nilL {key : Int → Bs} : ∀ {n : Nat} {b : List Int}, mrg key n [] b = b
  | 0, _ => rfl
  | _ + 1, _ => by simp [mrg]
theorem mrg_nilR {key : Int → Bs} : ∀ {n : Nat} {a : List Int}, mrg key n a [] = a
  | 0, _ => by simp [mrg]
  | _ + 1, [] => by simp [mrg]
  | _ + 1, _ :: _ => by simp [mrg]
theorem mrgL_le {key : Int → Bs} {x y : Int} {a b : List Int} (h : cmp (key x) (key y) ≤ 0) : mrgL key (x :: a) (y :: b) = x :: mrgL key a (y :: b) := by
  unfold mrgL
  rw [show (x :: a).length + (y :: b).length = (a.length + (y :: b).length) + 1 by simp only [List.length_cons]; omega, mrg, if_pos h]
theorem mrgL_gt {key : Int → Bs} {x y : Int} {a b : List Int} (h : ¬ cmp (key x) (key y) ≤ 0) : mrgL key (x :: a) (y :: b) = y :: mrgL key (x :: a) b := by
  unfold mrgL
  rw [show (x :: a).length + (y :: b).length = ((x :: a).length + b.length) + 1 by simp only [List.length_cons]; omega, mrg, if_neg h]
theorem mrg_is {g : Int → KV} : ∀ (n : Nat) (a b : List Int), a.length + b.length ≤ n → Asc (a.map g) → Asc (b.map g) → Mrg (a.map g ++ b.map g) ((mrgL (fun i => (g i).k) a b).map g)
  | n, [], b, _, _, hb => by
    unfold mrgL
    rw [mrg_nilL]
    exact ⟨Stb.refl _, hb⟩
  | n, x :: a, [], _, ha, _ => by
    unfold mrgL
    rw [mrg_nilR, List.map_nil, List.append_nil]
    exact ⟨Stb.refl _, ha⟩
  | 0, x :: a, y :: b, h, _, _ => by simp at h
  | n + 1, x :: a, y :: b, h, ha, hb => by
    obtain ⟨a1, a2⟩ := List.pairwise_cons.1 ha
    obtain ⟨b1, b2⟩ := List.pairwise_cons.1 hb
    simp only [List.length_cons] at h
    by_cases hc : cmp (g x).k (g y).k ≤ 0
    · rw [mrgL_le hc]
      have ih := mrg_is n a (y :: b) (by simp only [List.length_cons]; omega) a2 hb
      refine ⟨(Stb.refl [g x]).app ih.st, List.pairwise_cons.2 ⟨fun e he => ?_, ih.up⟩⟩
      rcases List.mem_append.1 (ih.st.perm.mem_iff.2 he) with h1 | h1
      · exact a1 e h1
      · rcases List.mem_cons.1 h1 with rfl | h1
        · exact hc
        · exact (cmp_lt_trans _ _ _ hc (b1 e h1)).1
    · rw [mrgL_gt hc]
      have ih := mrg_is n (x :: a) b (by simp only [List.length_cons]; omega) ha b2
      have hyx : cmp (g y).k (g x).k < 0 := by have := cmp_anti (g x).k (g y).k; omega
      have hall : ∀ e ∈ (x :: a).map g, cmp (g y).k e.k < 0 := by
        intro e he
        rcases List.mem_cons.1 he with rfl | he
        · exact hyx
        · exact lt_tr hyx (a1 e he)
      refine ⟨?_, List.pairwise_cons.2 ⟨fun e he => ?_, ih.up⟩⟩
      · have s1 : Stb ((x :: a).map g ++ (g y :: b.map g)) (g y :: ((x :: a).map g ++ b.map g)) := by
          have h1 := (Stb.swap (u := (x :: a).map g) (v := [g y]) fun e he f hf q => by
            have := hall e he
            rw [List.mem_singleton.1 hf] at q
            rw [q, cmp_self] at this
            omega).app (Stb.refl (b.map g))
          simpa using h1
        exact s1.trans ((Stb.refl [g y]).app ih.st)
      · rcases List.mem_append.1 (ih.st.perm.mem_iff.2 he) with h1 | h1
        · have := hall e h1
          omega
        · exact b1 e h1
theorem mrg_len {key : Int → Bs} : ∀ (n : Nat) (a b : List Int), a.length + b.length ≤ n → (mrgL key a b).length = a.length + b.length
  | n, [], b, _ => by unfold mrgL; rw [mrg_nilL]; simp
  | n, x :: a, [], _ => by unfold mrgL; rw [mrg_nilR]; simp
  | 0, x :: a, y :: b, h => by simp at h
  | n + 1, x :: a, y :: b, h => by
    simp only [List.length_cons] at h
    by_cases hc : cmp (key x) (key y) ≤ 0
    · rw [mrgL_le hc, List.length_cons, mrg_len n a (y :: b) (by simp only [List.length_cons]; omega)]
      simp only [List.length_cons]; omega
    · rw [mrgL_gt hc, List.length_cons, mrg_len n (x :: a) b (by simp only [List.length_cons]; omega)]
      simp only [List.length_cons]; omega
theorem mrg_mem {key : Int → Bs} {i : Int} : ∀ (n : Nat) (a b : List Int), a.length + b.length ≤ n → i ∈ mrgL key a b → i ∈ a ∨ i ∈ b
  | n, [], b, _, h => by unfold mrgL at h; rw [mrg_nilL] at h; exact .inr h
  | n, x :: a, [], _, h => by unfold mrgL at h; rw [mrg_nilR] at h; exact .inl h
  | 0, x :: a, y :: b, h, _ => by simp at h
  | n + 1, x :: a, y :: b, h, hi => by
    simp only [List.length_cons] at h
    by_cases hc : cmp (key x) (key y) ≤ 0
    · rw [mrgL_le hc] at hi
      rcases List.mem_cons.1 hi with rfl | hi
      · exact .inl (by simp)
      · rcases mrg_mem n a (y :: b) (by simp only [List.length_cons]; omega) hi with h | h
        · exact .inl (List.mem_cons_of_mem _ h)
        · exact .inr h
    · rw [mrgL_gt hc] at hi
      rcases List.mem_cons.1 hi with rfl | hi
      · exact .inr (by simp)
      · rcases mrg_mem n (x :: a) b (by simp only [List.length_cons]; omega) hi with h | h
        · exact .inl h
        · exact .inr (List.mem_cons_of_mem _ h)
/-- What is left to be laid, by how far one is. -/
theorem mrg_left {key : Int → Bs} {A B : List Int} {i k : Nat} {x y : Int} (hx : A[i]? = some x) (hy : B[k]? = some y) : mrgL key (A.drop i) (B.drop k) = if cmp (key x) (key y) ≤ 0 then x :: mrgL key (A.drop (i + 1)) (B.drop k) else y :: mrgL key (A.drop i) (B.drop (k + 1)) := by
  have hA : A.drop i = x :: A.drop (i + 1) := List.drop_eq_getElem?_toList_append.trans (by rw [hx]; rfl)
  have hB : B.drop k = y :: B.drop (k + 1) := List.drop_eq_getElem?_toList_append.trans (by rw [hy]; rfl)
  split
  · rename_i h
    rw [hA, hB, mrgL_le h]
  · rename_i h
    rw [hA, hB, mrgL_gt h]
end Go.Sx
namespace Go.Sx
open Go Go.Proofs
set_option maxRecDepth 10000
variable {w0 : World} {H : List Ck}
@[reducible] def oKVs (e : KV) : List Ck := [ob e.ka e.kc e.k, ob e.va e.vc e.v]
/-- What is read of an entry. -/
structure REe (w0 : World) (H : List Ck) (e : KV) : Prop where
  k : RBy w0 H e.ka e.kc e.k
  v : RBy w0 H e.va e.vc e.v
theorem REe.tl {e : KV} {d : Ck} (h : REe w0 H e) : REe w0 (d :: H) e := ⟨h.k.tl, h.v.tl⟩
theorem REe.ent {e : KV} {H' : List Ck} (h : REe w0 H' e) (g : Ent H H') : REe w0 H e := ⟨h.k.ent g, h.v.ent g⟩
theorem REe.st {es : List KV} {e : KV} (h : e ∈ es) : REe w0 (stars oKVs es :: H) e := REe.ent (H' := oKVs e) ⟨RBy.hd, RBy.hd.tl⟩ (stars_mem h)
theorem Ent.dropL {H : List Ck} : ∀ (L : List Ck), Ent (L ++ H) H
  | [] => Ent.refl
  | _ :: L => Ent.tl (Ent.dropL L)
theorem stars_sub {f : KV → List Ck} {F G : List KV} (h : G.Sublist F) {H : List Ck} : Ent (stars f F :: H) (stars f G :: H) := by
  obtain ⟨R, hp⟩ := h.exists_perm_append
  refine (stars_perm hp).trans ?_
  refine Ent.open ?_
  rw [List.flatMap_append, List.append_assoc]
  refine Ent.trans (H' := G.flatMap f ++ H) ?_ (Ent.star Ent.refl)
  exact Ent.appL (Ent.dropL _)
theorem ins_stars {e : KV} {out : List KV} {i j : Nat} {H : List Ck} (hij : i ≤ j) : Ent (oKVs e ++ stars oKVs out :: H) (stars oKVs (out.take i ++ e :: out.drop j) :: H) := by
  refine stars_cons'.trans ?_
  refine (stars_sub (G := e :: (out.take i ++ out.drop j)) ?_).trans (stars_perm List.perm_middle.symm)
  refine List.Sublist.cons_cons e ?_
  have : out.drop j = (out.drop i).drop (j - i) := by rw [List.drop_drop, show i + (j - i) = j by omega]
  rw [this]
  conv => rhs; rw [← List.take_append_drop i out]
  exact (List.Sublist.refl _).append (List.drop_sublist _ _)
theorem del_stars {out : List KV} {i j : Nat} {H : List Ck} (hij : i ≤ j) : Ent (stars oKVs out :: H) (stars oKVs (out.take i ++ out.drop j) :: H) := by
  refine stars_sub ?_
  have : out.drop j = (out.drop i).drop (j - i) := by rw [List.drop_drop, show i + (j - i) = j by omega]
  rw [this]
  conv => rhs; rw [← List.take_append_drop i out]
  exact (List.Sublist.refl _).append (List.drop_sublist _ _)
end Go.Sx
