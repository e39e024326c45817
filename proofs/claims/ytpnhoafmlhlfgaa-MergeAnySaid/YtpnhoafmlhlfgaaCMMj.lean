/- Part of a proof: several parts of a walk, one behind the other. -/
import Derived.Test.YtpnhoafmlhlfgaaCO2j
import Derived.Test.YtpnhoafmlhlfgaaCKB
namespace Go.Sx
open Go Go.Proofs
set_option maxRecDepth 10000
variable {w0 : World} {H : List Ck}
@[reducible] def oKVs (e : KV) : List Ck := [ob e.ka e.kc e.k, ob e.va e.vc e.v]
/-- What is read of an entry. -/
structure REe (w0 : World) (H : List Ck) (e : KV) : Prop where
  k : RBy w0 H e.ka e.kc e.k
  v : RBy w0 H e.va e.vc e.v
theorem REe.tl {e : KV} {d : Ck} (h : REe w0 H e) : REe w0 (d :: H) e := ⟨h.k.tl, h.v.tl⟩
theorem REe.ent {e : KV} {H' : List Ck} (h : REe w0 H' e) (g : Ent H H') : REe w0 H e := ⟨h.k.ent g, h.v.ent g⟩
theorem REe.st {es : List KV} {e : KV} (h : e ∈ es) : REe w0 (stars oKVs es :: H) e := REe.ent (H' := oKVs e) ⟨RBy.hd, RBy.hd.tl⟩ (stars_mem h)
theorem Ent.dropL {H : List Ck} : ∀ (L : List Ck), Ent (L ++ H) H
  | [] => Ent.refl
  | _ :: L => Ent.tl (Ent.dropL L)
theorem stars_sub {f : KV → List Ck} {F G : List KV} (h : G.Sublist F) {H : List Ck} : Ent (stars f F :: H) (stars f G :: H) := by
  obtain ⟨R, hp⟩ := h.exists_perm_append
  refine (stars_perm hp).trans ?_
  refine Ent.open ?_
  rw [List.flatMap_append, List.append_assoc]
  refine Ent.trans (H' := G.flatMap f ++ H) ?_ (Ent.star Ent.refl)
  exact Ent.appL (Ent.dropL _)
theorem ins_stars {e : KV} {out : List KV} {i j : Nat} {H : List Ck} (hij : i ≤ j) : Ent (oKVs e ++ stars oKVs out :: H) (stars oKVs (out.take i ++ e :: out.drop j) :: H) := by
  refine stars_cons'.trans ?_
  refine (stars_sub (G := e :: (out.take i ++ out.drop j)) ?_).trans (stars_perm List.perm_middle.symm)
  refine List.Sublist.cons_cons e ?_
  have : out.drop j = (out.drop i).drop (j - i) := by rw [List.drop_drop, show i + (j - i) = j by omega]
  rw [this]
  conv => rhs; rw [← List.take_append_drop i out]
  exact (List.Sublist.refl _).append (List.drop_sublist _ _)
theorem del_stars {out : List KV} {i j : Nat} {H : List Ck} (hij : i ≤ j) : Ent (stars oKVs out :: H) (stars oKVs (out.take i ++ out.drop j) :: H) := by
  refine stars_sub ?_
  have : out.drop j = (out.drop i).drop (j - i) := by rw [List.drop_drop, show i + (j - i) = j by omega]
  rw [this]
  conv => rhs; rw [← List.take_append_drop i out]
  exact (List.Sublist.refl _).append (List.drop_sublist _ _)
end Go.Sx
namespace Go.Sx
open Go
theorem get_map {α β : Type} {f : α → β} {l : List α} {i : Nat} {x : α} (h : l[i]? = some x) : (l.map f)[i]? = some (f x) := by simp [h]
theorem snocT {α : Type} {l : List α} {i : Nat} {e : α} (h : l[i]? = some e) : l.take (i + 1) = l.take i ++ [e] := by
  obtain ⟨hi, rfl⟩ := List.getElem?_eq_some_iff.1 h
  exact (List.take_append_getElem hi).symm
theorem dropG {α : Type} {l : List α} {i : Nat} {e : α} (h : l[i]? = some e) : l.drop i = e :: l.drop (i + 1) := by
  obtain ⟨hi, rfl⟩ := List.getElem?_eq_some_iff.1 h
  exact List.drop_eq_getElem_cons hi
section
variable {w0 : World} {H : List Ck}
theorem s_rwQ {n : Nat} {ds : Dx} {Q : Exit → Act → World → Prop} {e : Exit} {l : List (Nat × Value)} {t : Nat} {v v' : Value} (h : look l t = some v) (he : v = v') (k : SQ n ds Q e ((t, v') :: l) w0 H) : SQ n ds Q e l w0 H := by
  subst he
  refine .mk fun w hs => .mk fun a ha => (k.out w hs).out a ⟨ha.size, ha.defers, fun t' u ht => ?_⟩
  simp only [look] at ht
  by_cases e : t = t'
  · subst e; simp at ht; subst ht; exact ha.has _ _ h
  · have hb : Nat.beq t t' = false := by rw [← Bool.not_eq_true, Nat.beq_eq]; exact e
    rw [hb] at ht
    exact ha.has _ u ht
end
section
variable {fn : Func} {R : Value → World → Prop} {P : Program} {n : Nat} {l : List (Nat × Value)} {w : World}
/-- Two structs are returned. -/
theorem q_retcc {t t' : Tmp} {T : TypeId} {sz : Nat} [h : AgT P T sz] {k U k' U' : Nat} {vs vs' : List Value} (hr : fn.results = #[.cell t T, .cell t' T]) (hl : look l t = some (.pointer (some ⟨k, 0, none⟩))) (hl' : look l t' = some (.pointer (some ⟨k', 0, none⟩))) (hB : HB w k U vs) (hz : vs.length = sz) (hB' : HB w k' U' vs') (hz' : vs'.length = sz)
    (hR : R (.tuple #[.agg vs.toArray, .agg vs'.toArray]) w) : QJ n dx0 (bodyPost P fn (RetR R)) .ret l w := .mk fun a ha => by
  subst hz
  have h1 := run_loadCells_list (P := P) (w := w) ⟨k, 0, none⟩ vs hB.cells
  have h2 := run_loadCells_list (P := P) (w := w) ⟨k', 0, none⟩ vs' hB'.cells
  rw [hz'] at h2
  exact ⟨ha.defers, .tuple #[.agg vs.toArray, .agg vs'.toArray], by simp [results, hr, Array.getD_eq_getD_getElem?, ha.has _ _ hl, ha.has _ _ hl', asAddr, loadVar, h.agg, h.size, h1, h2], _, rfl, hR⟩
end
section
variable {P : Program} {fn : Func} {R : Value → List Ck → Prop} {n : Nat} {l : List (Nat × Value)} {w0 : World} {H H' : List Ck}
theorem s_retcc {t t' : Tmp} {T : TypeId} {sz : Nat} [h : AgT P T sz] {k U k' U' : Nat} {vs vs' : List Value} {H1 H2 : List Ck} (hr : fn.results = #[.cell t T, .cell t' T]) (hl : look l t = some (.pointer (some ⟨k, 0, none⟩))) (hl' : look l t' = some (.pointer (some ⟨k', 0, none⟩))) (hB : At (.hb k U vs) (.hb k U vs) H H1) (hz : vs.length = sz) (hB' : At (.hb k' U' vs') (.hb k' U' vs') H H2) (hz' : vs'.length = sz)
    (hR : R (.tuple #[.agg vs.toArray, .agg vs'.toArray]) H') (he : Ent H H' := by first | exact entq | exact ent) : SQ n dx0 (bodyPost P fn (RetR (RS w0 R))) .ret l w0 H := .mk fun _ hs => q_retcc hr hl hl' (Sat.hbOf hB hs) hz (Sat.hbOf hB' hs) hz' ⟨H', hR, hs.ent he⟩
end
end Go.Sx
namespace Go.Sx
open Go Go.Proofs
set_option maxRecDepth 10000
variable {w0 : World} {H : List Ck}
theorem st_app {A B H : List Ck} : Ent (.star (A ++ B) :: H) (A ++ .star B :: H) := Ent.open (by rw [List.append_assoc]; exact Ent.appL (Ent.star Ent.refl))
theorem st_app' {A B H : List Ck} : Ent (A ++ .star B :: H) (.star (A ++ B) :: H) := Ent.star (by rw [List.append_assoc]; exact Ent.appL (Ent.open Ent.refl))
theorem st_one {B : List Ck} : Ent [.star B] B := Ent.open (by rw [List.append_nil]; exact Ent.refl)
theorem st_one' {B : List Ck} : Ent B [.star B] := Ent.star (by rw [List.append_nil]; exact Ent.refl)
theorem st_sw {A B H : List Ck} : Ent (.star A :: .star B :: H) (.star B :: .star A :: H) := Ent.perm (.swap _ _ _)
theorem FnS.post {P : Program} {H : List Ck} {k : FuncId} {args : Array Value} {R R' : Value → List Ck → Prop} (h : FnS P w0 H k args R) (hm : ∀ v K, R v K → ∃ K', R' v K' ∧ Ent K K') : FnS P w0 H k args R' := fun w hs => by
  refine Calls.mono (h w hs) ?_
  rintro e w' ⟨v, rfl, K, h1, h2⟩
  obtain ⟨K', h3, h4⟩ := hm v K h1
  exact ⟨v, rfl, K', h3, h2.ent h4⟩
theorem stars_append' {β : Type} {f : β → List Ck} {F G : List β} {H : List Ck} : Ent (stars f F :: stars f G :: H) (stars f (F ++ G) :: H) := by
  unfold stars
  rw [List.flatMap_append]
  exact Ent.open st_app'
abbrev yv (ll : Nat) : Value := .func (.yield ll) #[] #[]
/-- What is handed to yield: whose bytes it is in, told; what is then known of the consumer. -/
def TellS (P : Program) (w0 : World) (o : Bool) (g0 : Ck) (gm : Nat → Ck) (g1 g2 : Ck) (k : Nat) (cap : List Value) (L : List (Bs × Bs)) : Prop :=
  ∀ (ll : Nat) (φ : Nat → List Ck → Prop) (fin : List Ck → Prop),
    (∀ (i : Nat) (x : KV) (u : Nat) (K T E : List Ck), L[i]? = some x.p → φ i K → (o = true → T = oKVs x) → REe w0 (.star T :: E) x →
      YldS P w0 (.star T :: .star K :: gm u :: E) ll #[.slice x.ka x.k.length x.kc, .slice x.va x.v.length x.vc] (fun v K' => ∃ K2, (v = .bool true ∧ φ (i + 1) K2 ∨ v = .bool false ∧ fin K2) ∧ K' = .star K2 :: gm u :: E)) →
    ∀ K, φ 0 K → FnS P w0 [g0, .star K] k (yv ll :: cap).toArray (fun v K' => v = .tuple #[] ∧ ∃ K2, φ L.length K2 ∧ K' = [g1, .star K2] ∨ fin K2 ∧ K' = [g2, .star K2])
/-- A value that tells so. -/
def TvF (P : Program) (w0 : World) (o : Bool) (g0 : Ck) (gm : Nat → Ck) (g1 g2 : Ck) (v : Value) (L : List (Bs × Bs)) : Prop := ∃ k cap, v = .func (.func k) #[] (List.toArray cap) ∧ FnT P k ∧ TellS P w0 o g0 gm g1 g2 k cap L
/-- Such a value, or nil. -/
def TvS (P : Program) (w0 : World) (o : Bool) (g0 : Ck) (gm : Nat → Ck) (g1 g2 : Ck) (v : Value) (L : List (Bs × Bs)) : Prop := v = .nilFunc ∧ L = [] ∧ g1 = g0 ∨ TvF P w0 o g0 gm g1 g2 v L
theorem copied_s {a : Option Addr} {c : Nat} {xs : Bs} (ha : RBy w0 H a c xs) (hx : xs.length ≤ 140737488355328) : FnS Try.prog w0 H 26 #[.slice a xs.length c] (fun v H' => ∃ a', v = .slice a' xs.length xs.length ∧ H' = ob a' xs.length xs :: H) := by
  refine fns_enter Try.func26 rfl rfl rfl ?_
  refine sx ?_
  refine s_call rfl (bclone_s ha hx) ?_
  rintro _ _ ⟨a1, c1, rfl, rfl⟩
  refine ⟨chk_seq, ?_⟩
  refine s_call rfl clip_s ?_
  rintro _ _ ⟨rfl, rfl⟩
  refine ⟨chk_seq, ?_⟩
  refine sx ?_
  exact s_ret1 rfl rfl ⟨a1, rfl, rfl⟩
theorem tell_none {o : Bool} {g g2 : Ck} {gm : Nat → Ck} : TellS Try.prog w0 o g gm g g2 52 [] [] := by
  intro ll φ fin _ K h
  refine fns_enter Try.func52 rfl rfl rfl ?_
  refine sx ?_
  exact s_end0 rfl ⟨rfl, K, .inl ⟨h, rfl⟩⟩
theorem of_s {o : Bool} {g0 g1 g2 : Ck} {gm : Nat → Ck} {v : Value} {L : List (Bs × Bs)} (h : TvS Try.prog w0 o g0 gm g1 g2 v L) : FnS Try.prog w0 H 31 #[v] (fun v' H' => TvF Try.prog w0 o g0 gm g1 g2 v' L ∧ H' = H) := by
  refine fns_enter Try.func31 rfl rfl rfl ?_
  refine sx ?_
  rcases h with ⟨rfl, rfl, rfl⟩ | ⟨k, cap, rfl, hk, ht⟩
  · refine sx ?_
    exact s_ret1 rfl rfl ⟨⟨52, [], rfl, inferInstance, tell_none⟩, rfl⟩
  · refine sx ?_
    exact s_ret1 rfl rfl ⟨⟨k, cap, rfl, hk, ht⟩, rfl⟩
end Go.Sx
namespace Go.Sx
open Go Go.Proofs
set_option maxRecDepth 10000
variable {w0 : World} {H : List Ck}
theorem TellS.frame {P : Program} {o : Bool} {g0 g1 g2 : Ck} {gm : Nat → Ck} {k : Nat} {cap : List Value} {L : List (Bs × Bs)} (h : TellS P w0 o g0 gm g1 g2 k cap L) (R : List Ck) {g0' g1' g2' : Ck} {gm' : Nat → Ck}
    (e0 : ∀ H, Ent (g0' :: H) (g0 :: .star R :: H)) (em : ∀ u H, Ent (gm u :: .star R :: H) (gm' u :: H)) (em' : ∀ u H, Ent (gm' u :: H) (gm u :: .star R :: H))
    (e1 : ∀ H, Ent (g1 :: .star R :: H) (g1' :: H)) (e2 : ∀ H, Ent (g2 :: .star R :: H) (g2' :: H)) : TellS P w0 o g0' gm' g1' g2' k cap L := by
  intro ll φ fin hy K h0
  refine FnS.post (FnS.ent (h ll (fun i K' => ∃ K0, φ i K0 ∧ K' = .star R :: K0) (fun K' => ∃ K0, fin K0 ∧ K' = .star R :: K0) ?_ _ ⟨K, h0, rfl⟩) ?_) ?_
  · rintro i x u K' T E hx ⟨K0, hφ, rfl⟩ hT hr
    refine YldS.post (YldS.ent (hy i x u K0 T E hx hφ hT hr) ?_) ?_
    · refine Ent.head ?_
      refine Ent.open ?_
      show Ent (.star R :: (K0 ++ gm u :: E)) _
      refine Ent.trans (H' := .star R :: .star K0 :: gm u :: E) (Ent.head (Ent.star Ent.refl)) ?_
      refine Ent.trans (H' := .star K0 :: gm u :: .star R :: E) (by exact entq) ?_
      exact Ent.head (em u E)
    · rintro v K' ⟨K2, h2, rfl⟩
      have he : Ent (.star K2 :: gm' u :: E) (.star (.star R :: K2) :: gm u :: E) := by
        refine Ent.trans (Ent.head (em' u E)) ?_
        refine Ent.star ?_
        show Ent _ (.star R :: (K2 ++ gm u :: E))
        refine Ent.trans (H' := .star R :: .star K2 :: gm u :: E) (by exact entq) ?_
        exact Ent.head (Ent.open Ent.refl)
      rcases h2 with ⟨rfl, h2⟩ | ⟨rfl, h2⟩
      · exact ⟨_, ⟨.star R :: K2, .inl ⟨rfl, K2, h2, rfl⟩, rfl⟩, he⟩
      · exact ⟨_, ⟨.star R :: K2, .inr ⟨rfl, K2, h2, rfl⟩, rfl⟩, he⟩
  · refine (e0 _).trans (Ent.head ?_)
    refine Ent.star ?_
    show Ent _ (.star R :: (K ++ []))
    rw [List.append_nil]
    exact Ent.head st_one
  · have hk : ∀ (g g' : Ck) K0, (∀ H, Ent (g :: .star R :: H) (g' :: H)) → Ent [g, .star (.star R :: K0)] [g', .star K0] := by
      intro g g' K0 e
      refine Ent.trans ?_ (e [.star K0])
      refine Ent.head ?_
      refine Ent.open ?_
      show Ent (.star R :: (K0 ++ [])) _
      rw [List.append_nil]
      exact Ent.head st_one'
    rintro v K' ⟨rfl, K2, ⟨⟨K0, h2, rfl⟩, rfl⟩ | ⟨⟨K0, h2, rfl⟩, rfl⟩⟩
    · exact ⟨_, ⟨rfl, K0, .inl ⟨h2, rfl⟩⟩, hk _ _ _ e1⟩
    · exact ⟨_, ⟨rfl, K0, .inr ⟨h2, rfl⟩⟩, hk _ _ _ e2⟩
/-- What tells, and leaves its memory as it was. -/
abbrev TvC (P : Program) (w0 : World) (g : Ck) (v : Value) (L : List (Bs × Bs)) : Prop := TvF P w0 true g (fun _ => g) g g v L
theorem TvC.frame {P : Program} {g g' : Ck} {v : Value} {L : List (Bs × Bs)} (h : TvC P w0 g v L) (R : List Ck) (e : ∀ H, Ent (g' :: H) (g :: .star R :: H)) (e' : ∀ H, Ent (g :: .star R :: H) (g' :: H)) : TvC P w0 g' v L := by
  obtain ⟨k, cap, h1, h2, h3⟩ := h
  exact ⟨k, cap, h1, h2, h3.frame R e (fun _ => e') (fun _ => e) e' e'⟩
theorem TvC.fst {P : Program} {g : Ck} {R : List Ck} {v : Value} {L : List (Bs × Bs)} (h : TvC P w0 g v L) : TvC P w0 (.star (g :: R)) v L :=
  h.frame R (fun _ => Ent.open (Ent.head (Ent.star Ent.refl))) (fun _ => Ent.star (Ent.head (Ent.open Ent.refl)))
theorem TvC.snd {P : Program} {g d : Ck} {R : List Ck} {v : Value} {L : List (Bs × Bs)} (h : TvC P w0 g v L) : TvC P w0 (.star (d :: g :: R)) v L :=
  h.frame (d :: R) (fun _ => Ent.open ((Ent.perm (.swap _ _ _)).trans (Ent.head (Ent.star Ent.refl)))) (fun _ => Ent.star (Ent.trans (Ent.head (Ent.open Ent.refl)) (Ent.perm (.swap _ _ _))))
end Go.Sx
