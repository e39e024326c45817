/- Part of a proof: the book: entries are kept. -/
import Derived.Test.YtbkaabjjmoaijaaCN3
namespace Go.Sx
open Go Go.Proofs
set_option maxRecDepth 10000
variable {w0 : World} {H : List Ck}

instance : ElT Try.prog 25 SE := ⟨trivial⟩
/-- What is true of a book: its lists are as they were, and not too many. -/
structure Bk.Ok (B : Bk) (n : Nat) : Prop where
  same : B.ls.map SB.xs = B.ws.map SB.xs
  len : B.ls.length ≤ n
  lens : B.fs.length ≤ n
  small : ∀ s ∈ B.ls, s.xs.length ≤ 4294967296
  smalls : ∀ f ∈ B.fs, f.xs.length ≤ 4294967296
theorem Bk.Ok.wlen {B : Bk} {n : Nat} (h : B.Ok n) : B.ws.length = B.ls.length := by
  have := congrArg List.length h.same
  simpa using this.symm
theorem Bk.Ok.mono {B : Bk} {n m : Nat} (h : B.Ok n) (hm : n ≤ m) : B.Ok m := ⟨h.same, Nat.le_trans h.len hm, Nat.le_trans h.lens hm, h.small, h.smalls⟩
abbrev BookR (B : Bk) (n : Nat) (H : List Ck) : Value → List Ck → Prop := fun _ H' => ∃ B' : Bk, H' = B'.ck :: H ∧ B'.k = B.k ∧ B'.Ok n
theorem keepB_s {B : Bk} {n : Nat} {a : Option Addr} {c : Nat} {xs : Bs} (hB : B.Ok n) (hn : n ≤ 1099511627776) (hx : xs.length ≤ 4294967296) :
    FnS Try.prog w0 (ob a c xs :: B.ck :: H) 43 #[.pointer (some ⟨B.k, 0, none⟩), .slice a xs.length c] (BookR B (n + 1) H) := by
  have hl := hB.len
  have hw := hB.wlen
  refine (keep_s ⟨by omega, by omega⟩ hx).mono ?_
  rintro v H' ⟨la, lc, wa, wc, a', c', rfl⟩
  refine ⟨_, rfl, rfl, ?_, ?_, ?_, ?_, hB.smalls⟩
  · simp only [List.map_append, hB.same, List.map_cons, List.map_nil]
  · simp only [List.length_append, List.length_cons, List.length_nil]; omega
  · have := hB.lens; show B.fs.length ≤ n + 1; omega
  · intro s hs
    simp only [List.mem_append, List.mem_singleton] at hs
    rcases hs with hs | rfl
    · exact hB.small s hs
    · exact hx
theorem oKV_cons {U : TypeId} {e : KV} {es : List KV} : oKV U (e :: es) = ol U e.ka e.kc e.k :: ol U e.va e.vc e.v :: oKV U es := rfl
theorem entries_s {B : Bk} {n : Nat} {a : Option Addr} {c : Nat} {es : List KV} (hB : B.Ok n) (hn : n + 2 * es.length ≤ 1099511627776) (hel : es.length ≤ 4294967296) (hx : ∀ e ∈ es, e.k.length ≤ 4294967296 ∧ e.v.length ≤ 4294967296) :
    FnS Try.prog w0 (oe a c es :: B.ck :: H) 24 #[.pointer (some ⟨B.k, 0, none⟩), .slice a es.length c] (BookR B (n + 2 * es.length + 1) H) := by
  refine fns_enter Try.func24 rfl rfl rfl ?_
  refine s_ent (ol 47 a c es :: .star (oKV 5 (es.drop 0)) :: B.ck :: H) (Ent.open (Ent.head (Ent.star Ent.refl))) ?_
  refine sx ?_
  refine s_loop (fun (i : Nat × Bk) => [(0, .pointer (some ⟨B.k, 0, none⟩)), (1, .slice a es.length c), (4, .int .i64 i.1)]) (fun i => ol 47 a c es :: .star (oKV 5 (es.drop i.1)) :: i.2.ck :: H)
    (fun i => i.1 ≤ es.length ∧ i.2.k = B.k ∧ i.2.Ok (n + 2 * i.1)) (fun i => es.length - i.1) (0, B) ⟨Nat.zero_le _, rfl, hB⟩ ?_
  rintro ⟨i, B1⟩ ⟨hi, hk, h1⟩
  simp only at hi hk h1 ⊢
  refine sx ?_
  refine s_if rfl (fun t1 => ?_) (fun t1 => ?_)
  · obtain ⟨e, hie⟩ := get_lt es i (by omega)
    have he := hx e (List.mem_of_getElem? hie)
    have hd : es.drop i = e :: es.drop (i + 1) := by
      rw [List.drop_eq_getElem_cons (by omega), (List.getElem?_eq_some_iff.1 hie).2]
    refine s_ent (ol 47 a c es :: ol 5 e.ka e.kc e.k :: ol 5 e.va e.vc e.v :: .star (oKV 5 (es.drop (i + 1))) :: B1.ck :: H) (by
      rw [hd]
      exact Ent.head (Ent.open (Ent.head (Ent.head (Ent.star Ent.refl))))) ?_
    refine sx ?_
    rw [← hk]
    refine s_call rfl ((keepB_s (a := e.ka) (c := e.kc) (xs := e.k) (H := ol 47 a c es :: ol 5 e.va e.vc e.v :: .star (oKV 5 (es.drop (i + 1))) :: H) h1 (by omega) he.1).ent (by exact ent)) ?_
    rintro _ _ ⟨B2, rfl, hk2, h2⟩
    refine ⟨chk_seq, ?_⟩
    refine sx ?_
    rw [← hk2]
    refine s_call rfl ((keepB_s (a := e.va) (c := e.vc) (xs := e.v) (H := ol 47 a c es :: .star (oKV 5 (es.drop (i + 1))) :: H) h2 (by omega) he.2).ent (by exact ent)) ?_
    rintro _ _ ⟨B3, rfl, hk3, h3⟩
    refine ⟨chk_seq, ?_⟩
    refine sx ?_
    exact s_again (i + 1, B3) ⟨by simp only; omega, by simp only; omega, h3⟩ (by simp only; omega)
  · obtain rfl : i = es.length := by omega
    have hl := h1.lens
    refine sx ?_
    refine s_entL (.hb B1.k 31 B1.cells :: ol 39 B1.la B1.lc B1.ls :: ol 39 B1.wa B1.wc B1.ws :: ol 25 B1.ea B1.ec B1.fs :: fam 5 B1.ls :: fam 5 B1.ws :: fam 47 B1.fs :: ol 47 a c es :: H) ?_ ?_
    · refine Ent.trans (H' := B1.ck :: ol 47 a c es :: H) (by exact ent) ?_
      exact Bk.open
    rw [← hk]
    refine sx ?_
    refine s_bsl [(⟨a, c, es⟩ : SE)] rfl rfl fun b9 => ?_
    refine s_app ?_
    intro ea ec
    refine sx ?_
    refine s_end0 rfl ⟨{ B1 with ea := ea, ec := ec, fs := B1.fs ++ [⟨a, c, es⟩] }, rfl, hk, h1.same, ?_, ?_, h1.small, ?_⟩ ?_
    · have := h1.len; show B1.ls.length ≤ _; omega
    · simp only [List.length_append, List.length_cons, List.length_nil]; omega
    · intro f hf
      simp only [List.mem_append, List.mem_singleton] at hf
      rcases hf with hf | rfl
      · exact h1.smalls f hf
      · exact hel
    refine Ent.trans ?_ Bk.shut
    refine Ent.cons (by exact rm) ?_
    refine Ent.cons (by exact rm) ?_
    refine Ent.cons (by exact rm) ?_
    refine Ent.cons (by exact rm) ?_
    refine Ent.cons (by exact rm) ?_
    refine Ent.cons (by exact rm) ?_
    refine Ent.famS (by exact rm) (by exact rm) ?_
    exact ent
/-! ### Of families -/
theorem drop_get {α : Type} {l : List α} {i : Nat} {x : α} (h : l[i]? = some x) : l.drop i = x :: l.drop (i + 1) := by
  have := (List.getElem?_eq_some_iff.1 h)
  rw [List.drop_eq_getElem_cons this.1, this.2]
section
variable {α β : Type} [Cel α] [Row β α] {E : TypeId} {F G : List β} {s : β} {R1 R2 R3 H' : List Ck}
theorem Ent.famK (h1 : Rm (Row.ck E s) H R1) (h2 : Rm (fam E F) R1 R2) (h : Ent R2 H') : Ent H (fam E (s :: F) :: H') :=
  ((Ent.perm h1.out).trans (Ent.head ((Ent.perm h2.out).trans (Ent.head h)))).trans fam_cons'
theorem Ent.famA (h1 : Rm (fam E F) H R1) (h2 : Rm (fam E G) R1 R2) (h : Ent R2 H') : Ent H (fam E (F ++ G) :: H') :=
  ((Ent.perm h1.out).trans (Ent.head ((Ent.perm h2.out).trans (Ent.head h)))).trans fam_app
theorem Ent.famKA (h1 : Rm (Row.ck E s) H R1) (h2 : Rm (fam E F) R1 R2) (h3 : Rm (fam E G) R2 R3) (h : Ent R3 H') : Ent H (fam E ((s :: F) ++ G) :: H') :=
  (((Ent.perm h1.out).trans (Ent.head ((Ent.perm h2.out).trans (Ent.head ((Ent.perm h3.out).trans (Ent.head h)))))).trans fam_cons').trans fam_app
end
end Go.Sx
