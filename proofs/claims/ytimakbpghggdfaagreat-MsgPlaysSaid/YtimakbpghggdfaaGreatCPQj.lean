/- Part of a proof: several parts of a walk, one behind the other. -/
import Derived.Test.YtimakbpghggdfaaGreatCKB
import Derived.Test.YtimakbpghggdfaaGreatCSWOj
import Derived.Test.YtimakbpghggdfaaGreatCO2j
import Derived.Test.YtimakbpghggdfaaGreatCMOj
import Derived.Test.YtimakbpghggdfaaGreatCGH
import Derived.Test.YtimakbpghggdfaaGreatCZJj
import Derived.Test.YtimakbpghggdfaaGreatCMPj
import Derived.Test.YtimakbpghggdfaaGreatCZH
namespace Go.Sx
open Go Go.Proofs
set_option maxRecDepth 10000
variable {w0 : World} {H : List Ck}
theorem st_app' {A B H : List Ck} : Ent (A ++ .star B :: H) (.star (A ++ B) :: H) := Ent.star (by rw [List.append_assoc]; exact Ent.appL (Ent.open Ent.refl))
theorem st_one {B : List Ck} : Ent [.star B] B := Ent.open (by rw [List.append_nil]; exact Ent.refl)
theorem st_one' {B : List Ck} : Ent B [.star B] := Ent.star (by rw [List.append_nil]; exact Ent.refl)
theorem FnS.post {P : Program} {H : List Ck} {k : FuncId} {args : Array Value} {R R' : Value → List Ck → Prop} (h : FnS P w0 H k args R) (hm : ∀ v K, R v K → ∃ K', R' v K' ∧ Ent K K') : FnS P w0 H k args R' := fun w hs => by
  refine Calls.mono (h w hs) ?_
  rintro e w' ⟨v, rfl, K, h1, h2⟩
  obtain ⟨K', h3, h4⟩ := hm v K h1
  exact ⟨v, rfl, K', h3, h2.ent h4⟩
theorem stars_append' {β : Type} {f : β → List Ck} {F G : List β} {H : List Ck} : Ent (stars f F :: stars f G :: H) (stars f (F ++ G) :: H) := by
  unfold stars
  rw [List.flatMap_append]
  exact Ent.open st_app'
abbrev yv (ll : Nat) : Value := .func (.yield ll) #[] #[]
/-- What is handed to yield: whose bytes it is in, told; what is then known of the consumer. -/
def TellS (P : Program) (w0 : World) (o : Bool) (g0 : Ck) (gm : Nat → Ck) (g1 g2 : Ck) (k : Nat) (cap : List Value) (L : List (Bs × Bs)) : Prop :=
  ∀ (ll : Nat) (φ : Nat → List Ck → Prop) (fin : List Ck → Prop),
    (∀ (i : Nat) (x : KV) (u : Nat) (K T E : List Ck), L[i]? = some x.p → φ i K → (o = true → T = oKVs x) → REe w0 (.star T :: E) x →
      YldS P w0 (.star T :: .star K :: gm u :: E) ll #[.slice x.ka x.k.length x.kc, .slice x.va x.v.length x.vc] (fun v K' => ∃ K2, (v = .bool true ∧ φ (i + 1) K2 ∨ v = .bool false ∧ fin K2) ∧ K' = .star K2 :: gm u :: E)) →
    ∀ K, φ 0 K → FnS P w0 [g0, .star K] k (yv ll :: cap).toArray (fun v K' => v = .tuple #[] ∧ ∃ K2, φ L.length K2 ∧ K' = [g1, .star K2] ∨ fin K2 ∧ K' = [g2, .star K2])
/-- A value that tells so. -/
def TvF (P : Program) (w0 : World) (o : Bool) (g0 : Ck) (gm : Nat → Ck) (g1 g2 : Ck) (v : Value) (L : List (Bs × Bs)) : Prop := ∃ k cap, v = .func (.func k) #[] (List.toArray cap) ∧ FnT P k ∧ TellS P w0 o g0 gm g1 g2 k cap L
end Go.Sx
namespace Go.Sx
open Go Go.Proofs
set_option maxRecDepth 10000
variable {w0 : World} {H : List Ck}
/-- Small bytes. -/
def SmL (L : List (Bs × Bs)) : Prop := ∀ p ∈ L, p.1.length ≤ 140737488355328 ∧ p.2.length ≤ 140737488355328
theorem REe.of {x : KV} : REe w0 (.star (oKVs x) :: H) x := REe.ent (H' := oKVs x ++ H) ⟨RBy.hd, RBy.hd.tl⟩ (Ent.open Ent.refl)
end Go.Sx
namespace Go.Sx
open Go Go.Proofs
set_option maxRecDepth 10000
variable {w0 : World} {H : List Ck}
end Go.Sx
namespace Go.Sx
open Go Go.Proofs
set_option maxRecDepth 10000
variable {w0 : World} {H : List Ck}
/-- A function (none: nil). -/
structure Fu where
  o : Option (Nat × List Value)
@[reducible] def Fu.val (x : Fu) : Value := match x.o with
  | none => .nilFunc
  | some (k, cap) => .func (.func k) #[] cap.toArray
instance : Cel Fu := ⟨1, fun x => [x.val], fun _ => rfl, fun x => by obtain ⟨_ | ⟨k, cap⟩⟩ := x <;> rfl, Nat.one_pos⟩
/-- An address of a block. -/
structure Pb where
  b : Nat
@[reducible] def Pb.val (x : Pb) : Value := .pointer (some ⟨x.b, 0, none⟩)
instance : Cel Pb := ⟨1, fun x => [x.val], fun _ => rfl, fun _ => rfl, Nat.one_pos⟩
theorem FnV.rm {P : Program} {c : Ck} {H R : List Ck} {k : FuncId} {args : Array Value} {v : Value} (hr : Rm c H R) (h : FnV P w0 (c :: R) k args v) : FnV P w0 H k args v :=
  FnS.post (FnS.ent h (Ent.perm hr.out)) fun _ _ ⟨h1, h2⟩ => ⟨H, ⟨h1, rfl⟩, by subst h2; exact Ent.perm hr.out.symm⟩
end Go.Sx
namespace Go.Sx
open Go Go.Proofs
set_option maxRecDepth 10000
variable {w0 : World} {H : List Ck}
/-- A head: its block, what is left, the list that it was. -/
structure Hdd where
  b : Nat
  a : Option Addr
  c : Nat
  rs : List KV
  oa : Option Addr
  oc : Nat
  os : List KV
@[reducible] def Hdd.p (h : Hdd) : Pb := ⟨h.b⟩
def Hdd.Ok (w0 : World) (h : Hdd) : Prop := RSl w0 [ol 31 h.oa h.oc h.os] h.a h.c h.rs
def Hdd.l (h : Hdd) : List Pp := h.rs.map KV.p
end Go.Sx
namespace Go.Sx
open Go Go.Proofs
set_option maxRecDepth 10000
variable {w0 : World} {H : List Ck}
end Go.Sx
namespace Go.Sx
open Go Go.Proofs
set_option maxRecDepth 10000
variable {w0 : World} {H : List Ck}
end Go.Sx
namespace Go.Sx
open Go Go.Proofs
set_option maxRecDepth 10000
variable {w0 : World} {H : List Ck}
end Go.Sx
namespace Go.Sx
open Go
theorem getM_putJ : ∀ {l : List MD} {key v : Bs}, getM l key = some (some v) → ∃ m ∈ l, m.kd = 1 ∧ m.v = v ∧ m.lo = key
  | [], _, _, h => by cases h
  | m :: r, key, v, h => by
    unfold getM at h
    split at h
    · rename_i o ho
      cases h
      obtain ⟨m', h1, h2⟩ := getM_putJ ho
      exact ⟨m', List.mem_cons_of_mem _ h1, h2⟩
    · split at h
      · rename_i hb
        split at h
        · rename_i hk
          simp only [Option.some.injEq] at h
          refine ⟨m, by simp, hk, h, ?_⟩
          rw [show saidR m = (m.lo, m.lo ++ [0], false) by simp [saidR, hk]] at hb
          exact (has_one.1 hb).symm
        · cases h
      · cases h
end Go.Sx
namespace Go.Sx
open Go Go.Proofs
set_option maxRecDepth 10000
variable {w0 : World} {H : List Ck}
end Go.Sx
namespace Go.Sx
open Go Go.Proofs
set_option maxRecDepth 10000
variable {w0 : World} {H : List Ck}
theorem TellS.frame {P : Program} {o : Bool} {g0 g1 g2 : Ck} {gm : Nat → Ck} {k : Nat} {cap : List Value} {L : List (Bs × Bs)} (h : TellS P w0 o g0 gm g1 g2 k cap L) (R : List Ck) {g0' g1' g2' : Ck} {gm' : Nat → Ck}
    (e0 : ∀ H, Ent (g0' :: H) (g0 :: .star R :: H)) (em : ∀ u H, Ent (gm u :: .star R :: H) (gm' u :: H)) (em' : ∀ u H, Ent (gm' u :: H) (gm u :: .star R :: H))
    (e1 : ∀ H, Ent (g1 :: .star R :: H) (g1' :: H)) (e2 : ∀ H, Ent (g2 :: .star R :: H) (g2' :: H)) : TellS P w0 o g0' gm' g1' g2' k cap L := by
  intro ll φ fin hy K h0
  refine FnS.post (FnS.ent (h ll (fun i K' => ∃ K0, φ i K0 ∧ K' = .star R :: K0) (fun K' => ∃ K0, fin K0 ∧ K' = .star R :: K0) ?_ _ ⟨K, h0, rfl⟩) ?_) ?_
  · rintro i x u K' T E hx ⟨K0, hφ, rfl⟩ hT hr
    refine YldS.post (YldS.ent (hy i x u K0 T E hx hφ hT hr) ?_) ?_
    · refine Ent.head ?_
      refine Ent.open ?_
      show Ent (.star R :: (K0 ++ gm u :: E)) _
      refine Ent.trans (H' := .star R :: .star K0 :: gm u :: E) (Ent.head (Ent.star Ent.refl)) ?_
      refine Ent.trans (H' := .star K0 :: gm u :: .star R :: E) (by exact entq) ?_
      exact Ent.head (em u E)
    · rintro v K' ⟨K2, h2, rfl⟩
      have he : Ent (.star K2 :: gm' u :: E) (.star (.star R :: K2) :: gm u :: E) := by
        refine Ent.trans (Ent.head (em' u E)) ?_
        refine Ent.star ?_
        show Ent _ (.star R :: (K2 ++ gm u :: E))
        refine Ent.trans (H' := .star R :: .star K2 :: gm u :: E) (by exact entq) ?_
        exact Ent.head (Ent.open Ent.refl)
      rcases h2 with ⟨rfl, h2⟩ | ⟨rfl, h2⟩
      · exact ⟨_, ⟨.star R :: K2, .inl ⟨rfl, K2, h2, rfl⟩, rfl⟩, he⟩
      · exact ⟨_, ⟨.star R :: K2, .inr ⟨rfl, K2, h2, rfl⟩, rfl⟩, he⟩
  · refine (e0 _).trans (Ent.head ?_)
    refine Ent.star ?_
    show Ent _ (.star R :: (K ++ []))
    rw [List.append_nil]
    exact Ent.head st_one
  · have hk : ∀ (g g' : Ck) K0, (∀ H, Ent (g :: .star R :: H) (g' :: H)) → Ent [g, .star (.star R :: K0)] [g', .star K0] := by
      intro g g' K0 e
      refine Ent.trans ?_ (e [.star K0])
      refine Ent.head ?_
      refine Ent.open ?_
      show Ent (.star R :: (K0 ++ [])) _
      rw [List.append_nil]
      exact Ent.head st_one'
    rintro v K' ⟨rfl, K2, ⟨⟨K0, h2, rfl⟩, rfl⟩ | ⟨⟨K0, h2, rfl⟩, rfl⟩⟩
    · exact ⟨_, ⟨rfl, K0, .inl ⟨h2, rfl⟩⟩, hk _ _ _ e1⟩
    · exact ⟨_, ⟨rfl, K0, .inr ⟨h2, rfl⟩⟩, hk _ _ _ e2⟩
/-- What tells, and leaves its memory as it was. -/
abbrev TvC (P : Program) (w0 : World) (g : Ck) (v : Value) (L : List (Bs × Bs)) : Prop := TvF P w0 true g (fun _ => g) g g v L
theorem TvC.frame {P : Program} {g g' : Ck} {v : Value} {L : List (Bs × Bs)} (h : TvC P w0 g v L) (R : List Ck) (e : ∀ H, Ent (g' :: H) (g :: .star R :: H)) (e' : ∀ H, Ent (g :: .star R :: H) (g' :: H)) : TvC P w0 g' v L := by
  obtain ⟨k, cap, h1, h2, h3⟩ := h
  exact ⟨k, cap, h1, h2, h3.frame R e (fun _ => e') (fun _ => e) e' e'⟩
theorem TvC.fst {P : Program} {g : Ck} {R : List Ck} {v : Value} {L : List (Bs × Bs)} (h : TvC P w0 g v L) : TvC P w0 (.star (g :: R)) v L :=
  h.frame R (fun _ => Ent.open (Ent.head (Ent.star Ent.refl))) (fun _ => Ent.star (Ent.head (Ent.open Ent.refl)))
theorem TvC.snd {P : Program} {g d : Ck} {R : List Ck} {v : Value} {L : List (Bs × Bs)} (h : TvC P w0 g v L) : TvC P w0 (.star (d :: g :: R)) v L :=
  h.frame (d :: R) (fun _ => Ent.open ((Ent.perm (.swap _ _ _)).trans (Ent.head (Ent.star Ent.refl)))) (fun _ => Ent.star (Ent.trans (Ent.head (Ent.open Ent.refl)) (Ent.perm (.swap _ _ _))))
end Go.Sx
namespace Go.Sx
open Go Go.Proofs
set_option maxRecDepth 10000
variable {w0 : World} {H : List Ck}
abbrev d1 : MD := ⟨0, 2, [99], [], []⟩
abbrev d2 : MD := ⟨0, 1, [98], [], [55]⟩
end Go.Sx
namespace Go.Sx
open Go Go.Proofs
set_option maxRecDepth 10000
variable {w0 : World} {H : List Ck}
/-- A telling of Of. -/
structure OfD where
  b : Nat
  a : Option Addr
  c : Nat
  out : List KV
def OfD.l (d : OfD) : List Pp := d.out.map KV.p
/-! ### What a map says -/
theorem map_says {es s out : List KV} (hM : Mrg es s) (ho : out.map KV.p = (lastsE s).map KV.p) : RiL (out.map KV.p) ∧ ∀ k, getL (out.map KV.p) k = getE es k := by
  obtain ⟨h1, h2⟩ := lasts_is hM.up
  have hri : RiL (out.map KV.p) := by
    rw [ho]
    unfold RiL
    rw [List.pairwise_map]
    exact h1
  refine ⟨hri, fun k => ?_⟩
  have hst : getE es k = getE s k := by
    unfold getE
    rw [hM.st.eq k]
  rw [hst]
  have hiff : ∀ v, getL (out.map KV.p) k = some v ↔ getE s k = some v := by
    intro v
    rw [← h2]
    constructor
    · intro g
      have := getL_mem g
      rw [ho] at this
      obtain ⟨e, he, hp⟩ := List.mem_map.1 this
      exact ⟨e, he, congrArg Prod.fst hp, congrArg Prod.snd hp⟩
    · rintro ⟨e, he, rfl, rfl⟩
      have : e.p ∈ out.map KV.p := by rw [ho]; exact List.mem_map_of_mem he
      exact getL_at hri this
  cases g : getE s k with
  | some v => exact (hiff v).2 g
  | none =>
    cases g2 : getL (out.map KV.p) k with
    | none => rfl
    | some v => rw [(hiff v).1 g2] at g; cases g
/-- Each telling is the map of a list. -/
def Maps (fs : List OfD) (ls : List SE) : Prop := fs.length = ls.length ∧ ∀ (i : Nat) (d : OfD) (s : SE), fs[i]? = some d → ls[i]? = some s → RiL d.l ∧ (∀ k, getL d.l k = getE s.xs k) ∧ SmL d.l ∧ d.l.length ≤ s.xs.length
theorem Maps.nil : Maps [] [] := ⟨rfl, fun i d s h _ => by simp at h⟩
theorem Maps.snoc {fs : List OfD} {ls : List SE} {d : OfD} {s : SE} (h : Maps fs ls) (h1 : RiL d.l) (h2 : ∀ k, getL d.l k = getE s.xs k) (h3 : SmL d.l) (h4 : d.l.length ≤ s.xs.length) : Maps (fs ++ [d]) (ls ++ [s]) := by
  refine ⟨by simp [h.1], fun i d' s' hd hs => ?_⟩
  rcases Nat.lt_or_ge i fs.length with g | g
  · rw [List.getElem?_append_left g] at hd
    rw [List.getElem?_append_left (by rw [← h.1]; exact g)] at hs
    exact h.2 i d' s' hd hs
  · rw [List.getElem?_append_right g] at hd
    rw [List.getElem?_append_right (by rw [← h.1]; exact g)] at hs
    have hi := (List.getElem?_eq_some_iff.1 hd).1
    simp only [List.length_cons, List.length_nil] at hi
    have e1 : i - fs.length = 0 := by omega
    rw [e1] at hd
    rw [← h.1, e1] at hs
    cases hd
    cases hs
    exact ⟨h1, h2, h3, h4⟩
theorem Maps.fst : ∀ {fs : List OfD} {ls : List SE}, Maps fs ls → ∀ k, fstL (fs.map OfD.l) k = fstE ls k
  | [], [], _, _ => rfl
  | [], _ :: _, h, _ => by have := h.1; simp at this
  | _ :: _, [], h, _ => by have := h.1; simp at this
  | d :: fs, s :: ls, h, k => by
    have h0 := h.2 0 d s rfl rfl
    have ih := Maps.fst (fs := fs) (ls := ls) ⟨by have := h.1; simpa using this, fun i d' s' hd hs => h.2 (i + 1) d' s' (by simpa using hd) (by simpa using hs)⟩ k
    simp only [List.map_cons, fstL, fstE, h0.2.1, ih] <;> cases getE s.xs k <;> rfl
end Go.Sx
namespace Go.Sx
open Go
set_option maxRecDepth 10000
theorem getL_iff' {l : List Pp} (h : RiL l) {k v : Bs} : getL l k = some v ↔ (k, v) ∈ l := ⟨getL_mem, fun g => getL_at h g⟩
/-- Below what was gone over. -/
def blw (F : Option Bs) (k : Bs) : Prop := match F with
  | none => False
  | some b => cmp k b < 0
structure ApK (es : List Pp) (ms : List MD) (F : Option Bs) (out rest : List Pp) : Prop where
  up : RiL out
  ru : RiL rest
  lo : ∀ e ∈ out, blw F e.1
  hi : ∀ e ∈ rest, ¬ blw F e.1
  say : ∀ key v, blw F key → ((key, v) ∈ out ↔ appO (getL es key) (getM ms key) = some v)
  rst : ∀ key v, ¬ blw F key → ((key, v) ∈ rest ↔ (key, v) ∈ es)
theorem ApK.nil {es : List Pp} {ms : List MD} (h : RiL es) : ApK es ms none [] es :=
  ⟨List.Pairwise.nil, h, fun e he => (by cases he), fun e _ => id, fun key v hk => hk.elim, fun _ _ _ => Iff.rfl⟩
def ltB (b : Bs) (e : Pp) : Bool := decide (cmp e.1 b < 0)
/-- A piece is gone over: what is ahead of it stays, what it has goes. -/
theorem ApK.step {es : List Pp} {ms : List MD} {F : Option Bs} {out rest a b : List Pp} {p : PD} (h : ApK es ms F out rest) (hA : RiL es) (hok : okP p) (hF : ∀ f, F = some f → cmp f (atP p) ≤ 0)
    (hs : rest = a ++ b) (ha : ∀ e ∈ a, cmp e.1 (endP p) < 0) (hb : ∀ e ∈ b, ¬ cmp e.1 (endP p) < 0)
    (hn : ∀ key, ¬ blw F key → cmp key (atP p) < 0 → getM ms key = none) (hp : ∀ key, cmp (atP p) key ≤ 0 → cmp key (endP p) < 0 → getM ms key = if p.put = true then some (some p.v) else some none)
    (ho : p.put = true → ∀ key, cmp (atP p) key ≤ 0 → cmp key (endP p) < 0 → key = p.key) :
    ApK es ms (some (endP p)) (out ++ a.filter (ltB (atP p)) ++ (if p.put = true then [(p.key, p.v)] else [])) b := by
  have hae := at_end hok
  have hra : RiL a ∧ RiL b ∧ ∀ x ∈ a, ∀ y ∈ b, cmp x.1 y.1 < 0 := by
    have := h.ru
    rw [hs] at this
    exact List.pairwise_append.1 this
  have hfl : ∀ e ∈ a.filter (ltB (atP p)), e ∈ a ∧ cmp e.1 (atP p) < 0 := fun e he => by
    obtain ⟨h1, h2⟩ := List.mem_filter.1 he
    exact ⟨h1, by simpa [ltB] using h2⟩
  have hout : ∀ e ∈ out, cmp e.1 (atP p) < 0 := fun e he => by
    have h1 := h.lo e he
    cases hc : F with
    | none => rw [hc] at h1; exact h1.elim
    | some f => rw [hc] at h1; exact lt_tr h1 (hF f hc)
  have hpk : p.put = true → atP p = p.key := fun g => by unfold atP; rw [if_pos g]
  have hbF : ∀ key, blw F key → cmp key (atP p) < 0 := fun key hk => by
    cases hc : F with
    | none => rw [hc] at hk; exact hk.elim
    | some f => rw [hc] at hk; exact lt_tr hk (hF f hc)
  have key_at : p.put = true → cmp p.key (endP p) < 0 := fun g => by rw [← hpk g]; exact hae
  refine ⟨?_, hra.2.1, fun e he => ?_, fun e he => hb e he, fun key v hk => ?_, fun key v hk => ?_⟩
  · refine List.pairwise_append.2 ⟨List.pairwise_append.2 ⟨h.up, hra.1.sublist List.filter_sublist, fun x hx y hy => ?_⟩, ?_, fun x hx y hy => ?_⟩
    · have h1 := h.lo x hx
      have h2 := h.hi y (by rw [hs]; exact List.mem_append_left _ (hfl y hy).1)
      cases hc : F with
      | none => rw [hc] at h1; exact h1.elim
      | some f =>
        rw [hc] at h1 h2
        have h2 : ¬ cmp y.1 f < 0 := h2
        have := cmp_anti y.1 f
        exact lt_tr h1 (by omega)
    · split <;> simp
    · split at hy
      · rename_i g
        rw [List.mem_singleton.1 hy]
        show cmp x.1 p.key < 0
        rw [← hpk g]
        rcases List.mem_append.1 hx with hx | hx
        · exact hout x hx
        · exact (hfl x hx).2
      · cases hy
  · rcases List.mem_append.1 he with he | he
    · rcases List.mem_append.1 he with he | he
      · exact lt_tr (hout e he) (by omega)
      · exact lt_tr (hfl e he).2 (by omega)
    · split at he
      · rename_i g
        rw [List.mem_singleton.1 he]
        exact key_at g
      · cases he
  · have hk : cmp key (endP p) < 0 := hk
    rw [List.mem_append, List.mem_append]
    by_cases hkF : blw F key
    · rw [h.say key v hkF]
      refine ⟨fun x => ?_, fun x => .inl (.inl x)⟩
      have hlt := hbF key hkF
      rcases x with (x | x) | x
      · exact x
      · exact absurd hkF (h.hi _ (by rw [hs]; exact List.mem_append_left _ (hfl _ x).1))
      · split at x
        · rename_i g
          have e := List.mem_singleton.1 x
          have e1 : key = p.key := congrArg Prod.fst e
          rw [e1, ← hpk g, cmp_self] at hlt
          omega
        · cases x
    · have hno : (key, v) ∉ out := fun x => hkF (h.lo _ x)
      by_cases hka : cmp key (atP p) < 0
      · rw [hn key hkF hka]
        show _ ↔ getL es key = some v
        rw [getL_iff' hA]
        rw [← h.rst key v hkF, hs]
        constructor
        · rintro ((x | x) | x)
          · exact absurd x hno
          · exact List.mem_append_left _ (hfl _ x).1
          · split at x
            · rename_i g
              have e1 : key = p.key := congrArg Prod.fst (List.mem_singleton.1 x)
              rw [e1, ← hpk g, cmp_self] at hka
              omega
            · cases x
        · intro x
          rcases List.mem_append.1 x with x | x
          · exact .inl (.inr (List.mem_filter.2 ⟨x, by simpa [ltB] using hka⟩))
          · exact absurd hk (hb _ x)
      · have hka2 : cmp (atP p) key ≤ 0 := by have := cmp_anti key (atP p); omega
        rw [hp key hka2 hk]
        by_cases g : p.put = true
        · rw [if_pos g, if_pos g]
          have hkk := ho g key hka2 hk
          show _ ↔ some p.v = some v
          constructor
          · rintro ((x | x) | x)
            · exact absurd x hno
            · exact absurd (hfl _ x).2 hka
            · have e : v = p.v := congrArg Prod.snd (List.mem_singleton.1 x)
              rw [e]
          · intro x
            obtain rfl := Option.some.inj x
            exact .inr (by rw [hkk]; simp)
        · rw [if_neg g, if_neg g]
          show _ ↔ none = some v
          constructor
          · rintro ((x | x) | x)
            · exact absurd x hno
            · exact absurd (hfl _ x).2 hka
            · cases x
          · intro x; cases x
  · have hk : ¬ cmp key (endP p) < 0 := hk
    have hkF : ¬ blw F key := fun g => hk (lt_tr (hbF key g) (by omega))
    rw [← h.rst key v hkF, hs, List.mem_append]
    exact ⟨.inr, fun x => x.elim (fun x => absurd (ha _ x) hk) id⟩
theorem ApK.fin {es : List Pp} {ms : List MD} {F : Option Bs} {out rest : List Pp} (h : ApK es ms F out rest) (hA : RiL es) (hn : ∀ key, ¬ blw F key → getM ms key = none) : RiL (out ++ rest) ∧ ∀ key v, (key, v) ∈ out ++ rest ↔ appO (getL es key) (getM ms key) = some v := by
  refine ⟨List.pairwise_append.2 ⟨h.up, h.ru, fun x hx y hy => ?_⟩, fun key v => ?_⟩
  · have h1 := h.lo x hx
    have h2 := h.hi y hy
    cases hc : F with
    | none => rw [hc] at h1; exact h1.elim
    | some f =>
      rw [hc] at h1 h2
      have h2 : ¬ cmp y.1 f < 0 := h2
      have := cmp_anti y.1 f
      exact lt_tr h1 (by omega)
  · rw [List.mem_append]
    by_cases hk : blw F key
    · rw [← h.say key v hk]
      exact ⟨fun x => x.elim id (fun x => absurd hk (h.hi _ x)), .inl⟩
    · rw [hn key hk]
      show _ ↔ getL es key = some v
      rw [getL_iff' hA, ← h.rst key v hk]
      exact ⟨fun x => x.elim (fun x => absurd (h.lo _ x) hk) id, .inr⟩
end Go.Sx

