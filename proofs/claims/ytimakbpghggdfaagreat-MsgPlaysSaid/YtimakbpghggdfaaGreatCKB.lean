/- Part of a proof: the calculus, second layer. No statement of its own. -/
import Derived.Test.YtimakbpghggdfaaGreatCKA
import Derived.Laws.Small
import Derived.Laws.Tables
import Derived.Laws.Pointers
import Derived.Laws.CopyRow
import Derived.Laws.IdiomCopy
import Derived.Laws.StructEq
import Derived.Lib.SliceRun
import Derived.Lib.AppendZerosOnto
import Derived.Lib.Overlaps
import Derived.Laws.IdiomStrings
import Derived.Maps.OwnSet
import Derived.Maps.Views
import Derived.Carry
import Derived.Deep.Slices
import Derived.ProofKit
import Derived.SizedLaws
namespace Go.Sx
open Go

/-- An assertion on a world and some of its blocks: it looks at no others. -/
structure As where
  p : World → (Nat → Prop) → Prop
  loc : ∀ {w w' : World} {S : Nat → Prop}, p w S → (∀ b, S b → w'.heap[b]? = w.heap[b]?) → p w' S

/-- A piece of what is one's own: a block that holds cells; a slice at the head of a row; anything else. -/
inductive Ck where
  | hb (b : Nat) (T : TypeId) (vs : List Value)
  | own (E sz : Nat) (a : Option Addr) (n c : Nat) (cells : List Value)
  | u (A : As)

def Ck.p : Ck → World → (Nat → Prop) → Prop
  | .hb b T vs, w, S => HB w b T vs ∧ S b
  | .own E sz a n c xs, w, S => Own w 0 E sz a n c xs ∧ ∀ ad, a = some ad → S ad.block
  | .u A, w, S => A.p w S

theorem HB.loc {w w' : World} {b : Nat} {T : TypeId} {vs : List Value} (h : HB w b T vs) (he : w'.heap[b]? = w.heap[b]?) : HB w' b T vs := by
  unfold HB; rw [he]; exact h
theorem Own.loc {w w' : World} {B E sz : Nat} {a : Option Addr} {n c : Nat} {xs : List Value} (h : Own w B E sz a n c xs) (he : ∀ ad, a = some ad → w'.heap[ad.block]? = w.heap[ad.block]?) : Own w' B E sz a n c xs := by
  obtain ⟨rfl, rfl, rfl, rfl⟩ | ⟨g, rest, rfl, hb, hg, h1, h2, h3⟩ := h.open
  · exact Own.nil ..
  · exact Own.mk' hb (hg.loc (he _ rfl)) h.len h1 h2 h3
theorem Ck.loc : ∀ {c : Ck} {w w' : World} {S : Nat → Prop}, c.p w S → (∀ b, S b → w'.heap[b]? = w.heap[b]?) → c.p w' S
  | .hb _ _ _, _, _, _, h, he => ⟨h.1.loc (he _ h.2), h.2⟩
  | .own _ _ _ _ _ _, _, _, _, h, he => ⟨h.1.loc (fun ad e => he _ (h.2 ad e)), h.2⟩
  | .u A, _, _, _, h, he => A.loc h he

def SatS : List Ck → World → (Nat → Prop) → Prop
  | [], _, _ => True
  | c :: H, w, S => ∃ S1 : Nat → Prop, (∀ b, S1 b → S b) ∧ c.p w S1 ∧ SatS H w (fun b => S b ∧ ¬ S1 b)

theorem SatS.mono : ∀ {H : List Ck} {w : World} {S S' : Nat → Prop}, SatS H w S → (∀ b, S b → S' b) → SatS H w S'
  | [], _, _, _, _, _ => trivial
  | _ :: _, _, _, _, ⟨S1, h1, h2, h3⟩, h => ⟨S1, fun b hb => h b (h1 b hb), h2, h3.mono fun b hb => ⟨h b hb.1, hb.2⟩⟩
theorem SatS.loc : ∀ {H : List Ck} {w w' : World} {S : Nat → Prop}, SatS H w S → (∀ b, S b → w'.heap[b]? = w.heap[b]?) → SatS H w' S
  | [], _, _, _, _, _ => trivial
  | _ :: _, _, _, _, ⟨S1, h1, h2, h3⟩, h => ⟨S1, h1, Ck.loc h2 fun b hb => h b (h1 b hb), h3.loc fun b hb => h b hb.1⟩
theorem SatS.swap {c d : Ck} {H : List Ck} {w : World} {S : Nat → Prop} : SatS (c :: d :: H) w S → SatS (d :: c :: H) w S :=
  fun ⟨S1, h1, hc, S2, h2, hd, hH⟩ => ⟨S2, fun b h => (h2 b h).1, hd, S1, fun b h => ⟨h1 b h, fun h' => (h2 b h').2 h⟩, hc, hH.mono fun _ h => ⟨⟨h.1.1, h.2⟩, h.1.2⟩⟩
theorem SatS.perm {H H' : List Ck} (h : H.Perm H') : ∀ {w : World} {S : Nat → Prop}, SatS H w S → SatS H' w S := by
  induction h with
  | nil => exact fun h => h
  | cons c _ ih => exact fun ⟨S1, h1, h2, h3⟩ => ⟨S1, h1, h2, ih h3⟩
  | swap c d H => exact SatS.swap
  | trans _ _ ih1 ih2 => exact fun h => ih2 (ih1 h)
theorem SatS.append {H : List Ck} {w : World} : ∀ {L : List Ck} {S : Nat → Prop}, SatS (L ++ H) w S ↔ ∃ S1 : Nat → Prop, (∀ b, S1 b → S b) ∧ SatS L w S1 ∧ SatS H w (fun b => S b ∧ ¬ S1 b)
  | [], S => ⟨fun h => ⟨fun _ => False, fun _ h => h.elim, trivial, h.mono fun _ hb => ⟨hb, id⟩⟩, fun ⟨_, _, _, h⟩ => h.mono fun _ hb => hb.1⟩
  | c :: L, S => by
    constructor
    · rintro ⟨T, hT, hc, hr⟩
      obtain ⟨S1, h1, hL, hH⟩ := SatS.append.1 hr
      refine ⟨fun b => T b ∨ S1 b, fun b hb => hb.elim (hT b) (fun h => (h1 b h).1), ⟨T, fun b h => .inl h, hc, hL.mono fun b hb => ⟨.inr hb, (h1 b hb).2⟩⟩, hH.mono fun b hb => ⟨hb.1.1, fun h => h.elim hb.1.2 hb.2⟩⟩
    · rintro ⟨S1, h1, ⟨T, hT, hc, hL⟩, hH⟩
      exact ⟨T, fun b hb => h1 b (hT b hb), hc, SatS.append.2 ⟨fun b => S1 b ∧ ¬ T b, fun b hb => ⟨h1 b hb.1, hb.2⟩, hL, hH.mono fun b hb => ⟨⟨hb.1, fun ht => hb.2 (hT b ht)⟩, fun hn => hb.2 hn.1⟩⟩⟩
def starAs (L : List Ck) : As := ⟨fun w S => SatS L w S, fun h he => h.loc he⟩
/-- Several pieces as one. -/
def Ck.star (L : List Ck) : Ck := .u (starAs L)

/-- All that was there in w0 is as it was; what is one's own came since. -/
def Sat (w0 : World) (H : List Ck) (w : World) : Prop := Ex w0 w ∧ ∃ S : Nat → Prop, (∀ b, S b → w0.heap.size ≤ b ∧ b < w.heap.size) ∧ SatS H w S
theorem Sat.nil (w : World) : Sat w [] w := ⟨Ext.refl w, fun _ => False, fun _ h => h.elim, trivial⟩
theorem Sat.old {w0 w : World} {H : List Ck} (h : Sat w0 H w) : Ex w0 w := h.1
theorem Sat.size {w0 w : World} {H : List Ck} (h : Sat w0 H w) : w0.heap.size ≤ w.heap.size := h.1.size
theorem Sat.ex {w0 w w' : World} {H : List Ck} (h : Sat w0 H w) (he : Ex w w') : Sat w0 H w' := by
  obtain ⟨h1, S, hS, hH⟩ := h
  refine ⟨h1.trans he, S, fun b hb => ⟨(hS b hb).1, Nat.lt_of_lt_of_le (hS b hb).2 he.size⟩, hH.loc fun b hb => he.block b (hS b hb).2 id⟩
theorem Sat.perm {w0 w : World} {H H' : List Ck} (h : Sat w0 H w) (hp : H.Perm H') : Sat w0 H' w := ⟨h.1, h.2.imp fun _ h => ⟨h.1, h.2.perm hp⟩⟩
theorem Sat.tl {w0 w : World} {c : Ck} {H : List Ck} (h : Sat w0 (c :: H) w) : Sat w0 H w := by
  obtain ⟨h1, S, hS, S1, _, _, hH⟩ := h
  exact ⟨h1, S, hS, hH.mono fun _ h => h.1⟩
theorem Sat.hd {w0 w : World} {c : Ck} {H : List Ck} (h : Sat w0 (c :: H) w) : ∃ S : Nat → Prop, (∀ b, S b → w0.heap.size ≤ b ∧ b < w.heap.size) ∧ c.p w S := by
  obtain ⟨h1, S, hS, S1, hs, hc, _⟩ := h
  exact ⟨S1, fun b hb => hS b (hs b hb), hc⟩
theorem Sat.star {w0 w : World} {L H : List Ck} : Sat w0 (Ck.star L :: H) w ↔ Sat w0 (L ++ H) w :=
  ⟨fun ⟨h1, S, hS, S1, a, b, c⟩ => ⟨h1, S, hS, SatS.append.2 ⟨S1, a, b, c⟩⟩, fun ⟨h1, S, hS, h⟩ => ⟨h1, S, hS, by obtain ⟨S1, a, b, c⟩ := SatS.append.1 h; exact ⟨S1, a, b, c⟩⟩⟩
/-- A piece that is new. -/
theorem Sat.new {w0 w w' : World} {c : Ck} {H : List Ck} (h : Sat w0 H w) (he : Ex w w') (S' : Nat → Prop) (hS' : ∀ b, S' b → w.heap.size ≤ b ∧ b < w'.heap.size) (hc : c.p w' S') : Sat w0 (c :: H) w' := by
  obtain ⟨h1, S, hS, hH⟩ := h
  have hs := h1.size
  refine ⟨h1.trans he, fun b => S' b ∨ S b, fun b hb => ?_, S', fun b hb => .inl hb, hc, (hH.loc fun b hb => he.block b (hS b hb).2 id).mono fun b hb => ⟨.inr hb, fun h' => ?_⟩⟩
  · have := he.size
    rcases hb with hb | hb
    · have := hS' b hb; omega
    · have := hS b hb; omega
  · have := hS' b h'; have := hS b hb; omega
/-- A piece that is turned. -/
theorem Sat.upd {w0 w w' : World} {c c' : Ck} {H : List Ck} (h : Sat w0 (c :: H) w)
    (hu : ∀ S : Nat → Prop, (∀ b, S b → w0.heap.size ≤ b ∧ b < w.heap.size) → c.p w S → Ext S w w' ∧ ∃ S' : Nat → Prop, c'.p w' S' ∧ ∀ b, S' b → (S b ∨ w.heap.size ≤ b) ∧ b < w'.heap.size) : Sat w0 (c' :: H) w' := by
  obtain ⟨h1, S, hS, S1, hs, hc, hH⟩ := h
  have hz := h1.size
  obtain ⟨he, S', hc', hS'⟩ := hu S1 (fun b hb => hS b (hs b hb)) hc
  have hz' := he.size
  refine ⟨h1.fresh he (fun i hi hn => by have := hS i (hs i hn); omega), fun b => S' b ∨ S b, fun b hb => ?_, S', fun b hb => .inl hb, hc', (hH.loc fun b hb => he.block b (hS b hb.1).2 hb.2).mono fun b hb => ⟨.inr hb.1, fun h' => ?_⟩⟩
  · rcases hb with hb | hb
    · have h2 := hS' b hb
      refine ⟨?_, h2.2⟩
      rcases h2.1 with h3 | h3
      · exact (hS b (hs b h3)).1
      · omega
    · have := hS b hb; omega
  · rcases (hS' b h').1 with h3 | h3
    · exact hb.2 h3
    · have := hS b hb.1; omega
theorem New.sat {w0 w w' : World} {b : Nat} {T : TypeId} {vs : List Value} {H : List Ck} (hN : New w w' b T vs) (h : Sat w0 H w) : Sat w0 (.hb b T vs :: H) w' :=
  h.new hN.ex (fun i => i = b) (fun i hi => by have := hN.at_; have := hN.sz; omega) ⟨hN.hb, rfl⟩
theorem Own.sat {w0 w w' : World} {E sz : Nat} {a : Option Addr} {n c : Nat} {xs : List Value} {H : List Ck} (ho : Own w' w.heap.size E sz a n c xs) (h : Sat w0 H w) (he : Ex w w') : Sat w0 (.own E sz a n c xs :: H) w' :=
  h.new he (fun i => ∃ ad, a = some ad ∧ ad.block = i) (fun i ⟨ad, ha, hi⟩ => by subst ha; subst hi; exact ho.ge) ⟨ho.mono (Nat.zero_le _), fun ad e => ⟨ad, e, rfl⟩⟩

/-! ### Places in a list -/
/-- The piece c of a list, put into another's place. -/
inductive At (c c' : Ck) : List Ck → List Ck → Prop
  | hd {H : List Ck} : At c c' (c :: H) (c' :: H)
  | tl {d : Ck} {H H' : List Ck} (h : At c c' H H') : At c c' (d :: H) (d :: H')
theorem At.out {c c' : Ck} {H H' : List Ck} (h : At c c' H H') : ∃ R, H.Perm (c :: R) ∧ H'.Perm (c' :: R) := by
  induction h with
  | hd => exact ⟨_, .refl _, .refl _⟩
  | tl _ ih =>
    rename_i d _ _ _
    obtain ⟨R, h1, h2⟩ := ih
    exact ⟨d :: R, (h1.cons d).trans (.swap _ _ _), (h2.cons d).trans (.swap _ _ _)⟩
/-- A list without c. -/
inductive Rm (c : Ck) : List Ck → List Ck → Prop
  | hd {H : List Ck} : Rm c (c :: H) H
  | tl {d : Ck} {H H' : List Ck} (h : Rm c H H') : Rm c (d :: H) (d :: H')
theorem Rm.out {c : Ck} {H R : List Ck} (h : Rm c H R) : H.Perm (c :: R) := by
  induction h with
  | hd => exact .refl _
  | tl _ ih => exact (ih.cons _).trans (.swap _ _ _)
theorem Rm.at {c c' : Ck} {H R : List Ck} (h : Rm c H R) : ∃ H', At c c' H H' ∧ H'.Perm (c' :: R) := by
  induction h with
  | hd => exact ⟨_, .hd, .refl _⟩
  | tl _ ih => obtain ⟨H', h1, h2⟩ := ih; exact ⟨_, .tl h1, (h2.cons _).trans (.swap _ _ _)⟩

/-- What one list says another says too. -/
def Ent (H H' : List Ck) : Prop := ∀ w S, SatS H w S → SatS H' w S
theorem Sat.ent {w0 w : World} {H H' : List Ck} (h : Sat w0 H w) (e : Ent H H') : Sat w0 H' w := ⟨h.1, h.2.imp fun S h => ⟨h.1, e w S h.2⟩⟩
theorem Ent.refl {H : List Ck} : Ent H H := fun _ _ h => h
theorem Ent.trans {H H' H'' : List Ck} (h : Ent H H') (k : Ent H' H'') : Ent H H'' := fun w S hs => k w S (h w S hs)
theorem Ent.nil {H : List Ck} : Ent H [] := fun _ _ _ => trivial
theorem Ent.tl {c : Ck} {H H' : List Ck} (h : Ent H H') : Ent (c :: H) H' := fun w _ ⟨_, _, _, h3⟩ => (h w _ h3).mono fun _ h => h.1
theorem Ent.perm {H H' : List Ck} (h : H.Perm H') : Ent H H' := fun _ _ hs => hs.perm h
theorem Ent.head {c : Ck} {H H' : List Ck} (h : Ent H H') : Ent (c :: H) (c :: H') := fun w _ ⟨S1, h1, h2, h3⟩ => ⟨S1, h1, h2, h w _ h3⟩
theorem Ent.cons {c : Ck} {H R H' : List Ck} (hr : Rm c H R) (h : Ent R H') : Ent H (c :: H') := (Ent.perm hr.out).trans h.head
theorem Ent.app {L L' H : List Ck} (h : Ent L L') : Ent (L ++ H) (L' ++ H) := fun w _ hs => by
  obtain ⟨S1, h1, h2, h3⟩ := SatS.append.1 hs
  exact SatS.append.2 ⟨S1, h1, h w _ h2, h3⟩
theorem Ent.star {L H H' : List Ck} (h : Ent H (L ++ H')) : Ent H (Ck.star L :: H') := fun w S hs => by
  obtain ⟨S1, h1, h2, h3⟩ := SatS.append.1 (h w S hs)
  exact ⟨S1, h1, h2, h3⟩
theorem Ent.open {L H H' : List Ck} (h : Ent (L ++ H) H') : Ent (Ck.star L :: H) H' := fun w S ⟨S1, h1, h2, h3⟩ => h w S (SatS.append.2 ⟨S1, h1, h2, h3⟩)
/-- More in a star, at its end. -/
theorem Ent.more {L K : List Ck} {H : List Ck} : Ent (Ck.star L :: (K ++ H)) (Ck.star (L ++ K) :: H) := Ent.open (Ent.star (by rw [List.append_assoc]; exact Ent.refl))
/-- A piece said otherwise. -/
theorem Ent.hd1 {c c' : Ck} {H : List Ck} (h : ∀ w S, c.p w S → c'.p w S) : Ent (c :: H) (c' :: H) := fun w _ ⟨S1, h1, h2, h3⟩ => ⟨S1, h1, h w _ h2, h3⟩
/-- Several shut into one. -/
theorem Ent.shut {c : Ck} {L H : List Ck} (h : ∀ w S, SatS L w S → c.p w S) : Ent (L ++ H) (c :: H) := fun w S hs => by
  obtain ⟨S1, h1, h2, h3⟩ := SatS.append.1 hs
  exact ⟨S1, h1, h w _ h2, h3⟩
theorem Sat.at {w0 w : World} {c c' : Ck} {H H' : List Ck} (ha : At c c' H H') (h : Sat w0 H w) : ∃ R, Sat w0 (c :: R) w ∧ ∀ w', Sat w0 (c' :: R) w' → Sat w0 H' w' := by
  obtain ⟨R, h1, h2⟩ := ha.out
  exact ⟨R, h.perm h1, fun w' hs => hs.perm h2.symm⟩
/-- A nil slice of one's own costs nothing. -/
theorem Ent.nilS {E sz : Nat} {H : List Ck} : Ent H (.own E sz none 0 0 [] :: H) := fun w S h => ⟨fun _ => False, fun _ h => h.elim, ⟨Own.nil .., fun _ e => by cases e⟩, h.mono fun _ h => ⟨h, id⟩⟩
theorem Ent.star0 {H : List Ck} : Ent H (Ck.star [] :: H) := Ent.star Ent.refl
/-- A step that turns a piece somewhere in the list. -/
theorem Sat.updAt {w0 w w' : World} {c c' : Ck} {H H' : List Ck} (ha : At c c' H H') (h : Sat w0 H w)
    (hu : ∀ S : Nat → Prop, (∀ b, S b → w0.heap.size ≤ b ∧ b < w.heap.size) → c.p w S → Ext S w w' ∧ ∃ S' : Nat → Prop, c'.p w' S' ∧ ∀ b, S' b → (S b ∨ w.heap.size ≤ b) ∧ b < w'.heap.size) : Sat w0 H' w' := by
  obtain ⟨R, h1, h2⟩ := h.at ha
  exact h2 w' (h1.upd hu)
theorem Sat.hb {w0 w w' : World} {b : Nat} {T : TypeId} {vs vs' : List Value} {H H' : List Ck} (ha : At (.hb b T vs) (.hb b T vs') H H') (h : Sat w0 H w) (hb : HB w' b T vs') (he : Ext (fun i => i = b) w w') : Sat w0 H' w' :=
  h.updAt ha fun S hS ⟨_, hc⟩ => ⟨he.mono fun i _ e => by subst e; exact hc, fun i => i = b, ⟨hb, rfl⟩, fun i e => by subst e; exact ⟨.inl hc, hb.lt⟩⟩
theorem Sat.hbOf {w0 w : World} {b : Nat} {T : TypeId} {vs : List Value} {c' : Ck} {H H' : List Ck} (ha : At (.hb b T vs) c' H H') (h : Sat w0 H w) : HB w b T vs := by
  obtain ⟨R, h1, _⟩ := h.at ha
  obtain ⟨S, _, h2, _⟩ := h1.hd
  exact h2
theorem Sat.ownOf {w0 w : World} {E sz : Nat} {a : Option Addr} {n c : Nat} {xs : List Value} {c' : Ck} {H H' : List Ck} (ha : At (.own E sz a n c xs) c' H H') (h : Sat w0 H w) : Own w w0.heap.size E sz a n c xs := by
  obtain ⟨R, h1, _⟩ := h.at ha
  obtain ⟨S, hS, h2, h3⟩ := h1.hd
  obtain ⟨rfl, rfl, rfl, rfl⟩ | ⟨g, rest, rfl, hb, hg, g1, g2, g3⟩ := h2.open
  · exact Own.nil ..
  · exact Own.mk' (hS _ (h3 _ rfl)).1 hg h2.len g1 g2 g3
/-- A slice of one's own that has grown, or was written over. -/
theorem Sat.own {w0 w w' : World} {E sz : Nat} {a a' : Option Addr} {n n' c c' : Nat} {xs xs' : List Value} {H H' : List Ck} (ha : At (.own E sz a n c xs) (.own E sz a' n' c' xs') H H') (h : Sat w0 H w) {B : Nat} (ho : Own w' B E sz a' n' c' xs') (he : Ext (fun i => blk a = some i) w w')
    (hf : ∀ ad', a' = some ad' → blk a = some ad'.block ∨ w.heap.size ≤ ad'.block) : Sat w0 H' w' :=
  h.updAt ha fun S hS ⟨h1, h2⟩ => by
    have hS2 : ∀ i, blk a = some i → S i := fun i hi => by
      cases a with
      | none => cases hi
      | some ad => simp only [blk, Option.map_some, Option.some.injEq] at hi; subst hi; exact h2 _ rfl
    refine ⟨he.mono fun i _ hi => hS2 i hi, fun i => ∃ ad, a' = some ad ∧ ad.block = i, ⟨ho.mono (Nat.zero_le _), fun ad e => ⟨ad, e, rfl⟩⟩, fun i ⟨ad, e, hi⟩ => ?_⟩
    subst hi
    refine ⟨(hf ad e).imp (hS2 _) id, ?_⟩
    subst e
    exact ho.ge.2
theorem Ent.addNil {E sz : Nat} {H H' : List Ck} (h : Ent H H') : Ent H (.own E sz none 0 0 [] :: H') := h.trans Ent.nilS
theorem Ent.addStar {H H' : List Ck} (h : Ent H H') : Ent H (Ck.star [] :: H') := h.trans Ent.star0
/-- A star takes more in. -/
theorem Ent.snoc1 {L H R1 R2 H' : List Ck} {c1 : Ck} (h1 : Rm (.star L) H R1) (h2 : Rm c1 R1 R2) (h : Ent R2 H') : Ent H (.star (L ++ [c1]) :: H') :=
  ((Ent.perm h1.out).trans (Ent.head ((Ent.perm h2.out).trans (Ent.head h)))).trans (Ent.more (K := [c1]))
theorem Ent.snoc2 {L H R1 R2 R3 H' : List Ck} {c1 c2 : Ck} (h1 : Rm (.star L) H R1) (h2 : Rm c1 R1 R2) (h3 : Rm c2 R2 R3) (h : Ent R3 H') : Ent H (.star (L ++ [c1, c2]) :: H') :=
  ((Ent.perm h1.out).trans (Ent.head ((Ent.perm h2.out).trans (Ent.head ((Ent.perm h3.out).trans (Ent.head h)))))).trans (Ent.more (K := [c1, c2]))
theorem Ent.rm {c : Ck} {H R : List Ck} (h : Rm c H R) : Ent H R := (Ent.perm h.out).trans (Ent.tl Ent.refl)
/-- Of less capacity. -/
theorem Ent.clip {E sz : Nat} {a : Option Addr} {n c c' : Nat} {cells : List Value} {H : List Ck} (h1 : n ≤ c') (h2 : c' ≤ c) : Ent (.own E sz a n c cells :: H) (.own E sz a n c' cells :: H) := Ent.hd1 fun _ _ h => ⟨h.1.clip h1 h2, h.2⟩
theorem rm {c : Ck} {H R : List Ck} (h : Rm c H R := by (repeat (first | exact Rm.hd | apply Rm.tl)); first | done | fail) : Rm c H R := h
theorem at_ {c c' : Ck} {H H' : List Ck} (h : At c c' H H' := by (repeat (first | exact At.hd | apply At.tl)); first | done | fail) : At c c' H H' := h
/-- One list out of another: what is there is found, what costs nothing is laid. -/
theorem ent {H H' : List Ck} (h : Ent H H' := by (repeat (first | with_reducible exact Ent.refl | exact Ent.nil | refine Ent.cons (by exact rm) ?_ | refine Ent.addNil ?_ | refine Ent.addStar ?_ | refine Ent.kv1 (by exact rm) (by exact rm) (by exact rm) ?_ | refine Ent.snoc1 (by exact rm) (by exact rm) ?_ | refine Ent.snoc2 (by exact rm) (by exact rm) (by exact rm) ?_ | refine Ent.kv0 ?_ | refine Ent.oe (by exact rm) (by exact rm) ?_ | exact Ent.refl | refine Ent.tl ?_)); first | done | fail) : Ent H H' := h
/-- The same searches, by plain sight. -/
theorem rmq {c : Ck} {H R : List Ck} (h : Rm c H R := by (repeat (first | with_reducible exact Rm.hd | with_reducible apply Rm.tl)); first | done | fail) : Rm c H R := h
theorem entq {H H' : List Ck} (h : Ent H H' := by (repeat (first | with_reducible exact Ent.refl | with_reducible exact Ent.nil | with_reducible refine Ent.head ?_ | with_reducible refine Ent.cons (by exact rmq) ?_ | with_reducible refine Ent.addNil ?_ | with_reducible refine Ent.addStar ?_ | with_reducible refine Ent.tl ?_)); first | done | fail) : Ent H H' := h
end Go.Sx
namespace Go.Sx
open Go

/-- What lies in so many cells. -/
class Cel (α : Type) where
  sz : Nat
  f : α → List Value
  len : ∀ x, (f x).length = sz
  one : ∀ x, (f x).all Value.oneCell' = true
  pos : 0 < sz
abbrev flat {α : Type} [Cel α] (xs : List α) : List Value := xs.flatMap Cel.f
instance : Cel UInt8 := ⟨1, fun x => [bv x], fun _ => rfl, fun _ => rfl, Nat.one_pos⟩
instance : Cel Int := ⟨1, fun x => [.int .i64 x], fun _ => rfl, fun _ => rfl, Nat.one_pos⟩
instance : Cel SB := ⟨1, fun x => [x.val], fun _ => rfl, fun _ => rfl, Nat.one_pos⟩
instance : Cel KV := ⟨2, KV.cells, fun _ => rfl, fun _ => rfl, Nat.two_pos⟩
theorem flat_length {α : Type} [Cel α] : ∀ (xs : List α), (flat xs).length = xs.length * Cel.sz α
  | [] => by simp
  | x :: xs => by simp only [flat, List.flatMap_cons, List.length_append, Cel.len, List.length_cons, Nat.add_mul]; have := flat_length xs; simp only [flat] at this; omega
theorem flat_oneC {α : Type} [Cel α] (xs : List α) : ∀ v ∈ flat xs, v.oneCell' = true := by
  intro v hv
  obtain ⟨x, _, hx⟩ := List.mem_flatMap.1 hv
  exact List.all_eq_true.1 (Cel.one x) v hx
theorem flat_at {α : Type} [Cel α] : ∀ (xs : List α) (i : Nat) (x : α) (o : Nat) (v : Value), xs[i]? = some x → (Cel.f x)[o]? = some v → (flat xs)[i * Cel.sz α + o]? = some v
  | [], i, x, o, v, h, _ => by simp at h
  | y :: xs, 0, x, o, v, h, hv => by
    simp only [List.getElem?_cons_zero, Option.some.injEq] at h
    subst h
    simp only [flat, List.flatMap_cons, Nat.zero_mul, Nat.zero_add]
    rw [List.getElem?_append_left (List.getElem?_eq_some_iff.1 hv).1]
    exact hv
  | y :: xs, i + 1, x, o, v, h, hv => by
    have := flat_at xs i x o v (by simpa using h) hv
    simp only [flat, List.flatMap_cons]
    rw [List.getElem?_append_right (by rw [Cel.len, Nat.add_mul]; omega), Cel.len, show (i + 1) * Cel.sz α + o - Cel.sz α = i * Cel.sz α + o by rw [Nat.add_mul]; omega]
    exact this
theorem flat_bs (xs : List UInt8) : flat xs = xs.map bv := by
  induction xs with
  | nil => rfl
  | cons x xs ih => simp only [flat, List.flatMap_cons, List.map_cons] at *; rw [ih]; rfl
theorem flat_kv (es : List KV) : flat es = es.flatMap KV.cells := rfl
theorem flat_set {α : Type} [Cel α] : ∀ (xs : List α) (i : Nat) (x : α), i < xs.length → flat (xs.set i x) = (flat xs).take (i * Cel.sz α) ++ Cel.f x ++ (flat xs).drop (i * Cel.sz α + Cel.sz α)
  | [], i, x, h => by simp at h
  | y :: xs, 0, x, _ => by simp [flat, Cel.len]
  | y :: xs, i + 1, x, h => by
    have := flat_set xs i x (by simpa using h)
    have e1 : (Cel.f y).take (i * Cel.sz α + Cel.sz α) = Cel.f y := List.take_of_length_le (by rw [Cel.len]; omega)
    have e2 : (Cel.f y).drop (i * Cel.sz α + Cel.sz α + Cel.sz α) = [] := List.drop_of_length_le (by rw [Cel.len]; omega)
    simp only [flat, List.set_cons_succ, List.flatMap_cons] at *
    rw [this, List.take_append, List.drop_append, Cel.len, Nat.add_mul, Nat.one_mul, e1, e2]
    rw [show i * Cel.sz α + Cel.sz α - Cel.sz α = i * Cel.sz α by omega, show i * Cel.sz α + Cel.sz α + Cel.sz α - Cel.sz α = i * Cel.sz α + Cel.sz α by omega]
    simp [List.append_assoc]

/-- A slice of one's own of such things. -/
@[reducible] def ol {α : Type} [Cel α] (E : TypeId) (a : Option Addr) (c : Nat) (xs : List α) : Ck := .own E (Cel.sz α) a xs.length c (flat xs)

/-- A slice that reads as a list. -/
structure Sl {α : Type} [Cel α] (w : World) (a : Option Addr) (c : Nat) (xs : List α) : Prop where
  le : xs.length ≤ c
  cap : c ≤ maxLen
  nil : a = none → c = 0
  cells : ∀ ad, a = some ad → Cells w ad (flat xs)
theorem Sl.len {α : Type} [Cel α] {w : World} {a : Option Addr} {c : Nat} {xs : List α} (h : Sl w a c xs) : (xs.length : Int) ≤ 9223372036854775807 := by
  have h1 := h.le; have h2 := h.cap; simp only [maxLen] at h2; omega
theorem Sl.ex {α : Type} [Cel α] {w w' : World} {a : Option Addr} {c : Nat} {xs : List α} (h : Sl w a c xs) (he : Ex w w') : Sl w' a c xs :=
  ⟨h.le, h.cap, h.nil, fun ad e => (h.cells ad e).ext he (fun _ h => h)⟩
theorem By.sl' {w : World} {a : Option Addr} {c : Nat} {xs : List UInt8} (h : By w a c xs) : Sl w a c xs := ⟨h.le, h.cap, h.nil, fun ad e => by rw [flat_bs]; exact h.cells ad e⟩
theorem Sl.by' {w : World} {a : Option Addr} {c : Nat} {xs : List UInt8} (h : Sl w a c xs) : By w a c xs := ⟨h.le, h.cap, h.nil, fun ad e => by rw [← flat_bs]; exact h.cells ad e⟩
theorem En.sl' {w : World} {a : Option Addr} {c : Nat} {es : List KV} (h : En w a c es) : Sl w a c es := ⟨h.le, h.cap, h.nil, h.cells⟩
theorem Own.sl' {α : Type} [Cel α] {w : World} {B E c : Nat} {a : Option Addr} {xs : List α} (h : Own w B E (Cel.sz α) a xs.length c (flat xs)) : Sl w a c xs := by
  refine ⟨h.le.1, h.le.2, ?_, ?_⟩
  · rintro rfl
    obtain ⟨_, _, h, _⟩ | ⟨g, rest, h, _⟩ := h.open
    · exact h
    · cases h
  · rintro ad rfl; exact h.cells
theorem Sl.at {α : Type} [Cel α] {w : World} {ad : Addr} {c : Nat} {xs : List α} (h : Sl w (some ad) c xs) {i : Nat} {x : α} (hx : xs[i]? = some x) : Cells w (ad.add (i * Cel.sz α)) (Cel.f x) := by
  intro o v hv
  rw [add_add]
  exact h.cells ad rfl _ _ (flat_at xs i x o v hx hv)

/-! ### In every world of which a list holds -/
variable {w0 : World} {H : List Ck}
def RBy (w0 : World) (H : List Ck) (a : Option Addr) (c : Nat) (xs : List UInt8) : Prop := ∀ w, Sat w0 H w → By w a c xs
def RSl {α : Type} [Cel α] (w0 : World) (H : List Ck) (a : Option Addr) (c : Nat) (xs : List α) : Prop := ∀ w, Sat w0 H w → Sl w a c xs
/-- A slice of entries, with their bytes. -/
def REn (w0 : World) (H : List Ck) (a : Option Addr) (c : Nat) (es : List KV) : Prop := ∀ w, Sat w0 H w → En w a c es
def RBbs (w0 : World) (H : List Ck) (a : Option Addr) (c : Nat) (ps : List SB) : Prop := ∀ w, Sat w0 H w → Bbs w a c ps
/-- A cell; cells. -/
def Rc (w0 : World) (H : List Ck) (ad : Addr) (v : Value) : Prop := ∀ w, Sat w0 H w → w.cell? ad = some v
def RcA (w0 : World) (H : List Ck) (ad : Addr) (vs : List Value) : Prop := ∀ w, Sat w0 H w → Cells w ad vs
/-- A fact that every such world bears out. -/
def Kn (w0 : World) (H : List Ck) (φ : Prop) : Prop := ∀ w, Sat w0 H w → φ

section
variable {d : Ck} {H' : List Ck} {α : Type} [Cel α] {a : Option Addr} {c : Nat} {ad : Addr}
theorem RBy.tl {xs : List UInt8} (h : RBy w0 H a c xs) : RBy w0 (d :: H) a c xs := fun w hs => h w hs.tl
omit [Cel α] in
theorem RSl.tl {_i : Cel α} {xs : List α} (h : RSl w0 H a c xs) : RSl w0 (d :: H) a c xs := fun w hs => h w hs.tl
theorem REn.tl {es : List KV} (h : REn w0 H a c es) : REn w0 (d :: H) a c es := fun w hs => h w hs.tl
theorem RBbs.tl {es : List SB} (h : RBbs w0 H a c es) : RBbs w0 (d :: H) a c es := fun w hs => h w hs.tl
theorem Rc.tl {v : Value} (h : Rc w0 H ad v) : Rc w0 (d :: H) ad v := fun w hs => h w hs.tl
theorem RcA.tl {vs : List Value} (h : RcA w0 H ad vs) : RcA w0 (d :: H) ad vs := fun w hs => h w hs.tl
theorem Kn.tl {φ : Prop} (h : Kn w0 H φ) : Kn w0 (d :: H) φ := fun w hs => h w hs.tl
theorem RBy.ent {xs : List UInt8} (h : RBy w0 H' a c xs) (e : Ent H H') : RBy w0 H a c xs := fun w hs => h w (hs.ent e)
theorem RSl.ent {xs : List α} (h : RSl w0 H' a c xs) (e : Ent H H') : RSl w0 H a c xs := fun w hs => h w (hs.ent e)
theorem REn.ent {es : List KV} (h : REn w0 H' a c es) (e : Ent H H') : REn w0 H a c es := fun w hs => h w (hs.ent e)
theorem Rc.ent {v : Value} (h : Rc w0 H' ad v) (e : Ent H H') : Rc w0 H ad v := fun w hs => h w (hs.ent e)
theorem Kn.ent {φ : Prop} (h : Kn w0 H' φ) (e : Ent H H') : Kn w0 H φ := fun w hs => h w (hs.ent e)
omit [Cel α] in
/-- What is one's own can be read. -/
theorem RSl.hd {_i : Cel α} {E : TypeId} {xs : List α} : RSl w0 (ol E a c xs :: H) a c xs := fun _ hs => (Sat.ownOf (c' := ol E a c xs) .hd hs).sl'
theorem RBy.hd {E : TypeId} {xs : List UInt8} : RBy w0 (ol E a c xs :: H) a c xs := fun w hs => (RSl.hd w hs).by'
theorem RBy.sl' {xs : List UInt8} (h : RBy w0 H a c xs) : RSl w0 H a c xs := fun w hs => (h w hs).sl'
theorem RSl.by' {xs : List UInt8} (h : RSl w0 H a c xs) : RBy w0 H a c xs := fun w hs => (h w hs).by'
theorem REn.sl' {es : List KV} (h : REn w0 H a c es) : RSl w0 H a c es := fun w hs => (h w hs).sl'
theorem REn.key {es : List KV} (h : REn w0 H a c es) {e : KV} (he : e ∈ es) : RBy w0 H e.ka e.kc e.k := fun w hs => ((h w hs).by_ e he).1
theorem REn.val {es : List KV} (h : REn w0 H a c es) {e : KV} (he : e ∈ es) : RBy w0 H e.va e.vc e.v := fun w hs => ((h w hs).by_ e he).2
theorem REn.mk {es : List KV} (h : RSl w0 H a c es) (hb : ∀ e, e ∈ es → RBy w0 H e.ka e.kc e.k ∧ RBy w0 H e.va e.vc e.v) : REn w0 H a c es :=
  fun w hs => ⟨(h w hs).le, (h w hs).cap, (h w hs).nil, (h w hs).cells, fun e he => ⟨(hb e he).1 w hs, (hb e he).2 w hs⟩⟩
theorem RBy.take {xs : List UInt8} (h : RBy w0 H a c xs) {k : Nat} (hk : k ≤ xs.length) : RBy w0 H a c (xs.take k) := fun w hs => (h w hs).take hk
theorem RBy.drop {xs : List UInt8} (h : RBy w0 H a c xs) {k : Nat} (hk : k ≤ xs.length) : RBy w0 H (sl a c k 1) (c - k) (xs.drop k) := fun w hs => (h w hs).drop hk
theorem RBy.sl {xs : List UInt8} (h : RBy w0 H a c xs) {j k : Nat} (hj : j ≤ k) (hk : k ≤ xs.length) : RBy w0 H (Sx.sl a c j 1) (c - j) ((xs.take k).drop j) := fun w hs => (h w hs).sl hj hk
theorem RBy.nil : RBy w0 H none 0 [] := fun _ _ => ⟨Nat.le_refl _, Nat.zero_le _, fun _ => rfl, fun _ e => by cases e⟩
omit [Cel α] in
theorem RSl.nil {_i : Cel α} : RSl w0 H none 0 ([] : List α) := fun _ _ => ⟨Nat.le_refl _, Nat.zero_le _, fun _ => rfl, fun _ e => by cases e⟩
theorem REn.nil : REn w0 H none 0 [] := fun _ _ => ⟨Nat.le_refl _, Nat.zero_le _, fun _ => rfl, fun _ e => (by cases e), fun _ h => (by cases h)⟩
theorem RSl.take {xs : List α} (h : RSl w0 H a c xs) {k : Nat} (hk : k ≤ xs.length) : RSl w0 H a c (xs.take k) := fun w hs => by
  have h' := h w hs
  have h1 := h'.le
  refine ⟨by simp; omega, h'.cap, h'.nil, fun ad e i v hv => h'.cells ad e i v ?_⟩
  have : flat (xs.take k) ++ flat (xs.drop k) = flat xs := by rw [flat, flat, ← List.flatMap_append, List.take_append_drop]
  rw [← this, List.getElem?_append_left (List.getElem?_eq_some_iff.1 hv).1]
  exact hv
theorem RSl.drop {xs : List α} (h : RSl w0 H a c xs) {j : Nat} (hj : j ≤ xs.length) : RSl w0 H (Sx.sl a c j (Cel.sz α)) (c - j) (xs.drop j) := fun w hs => by
  have h' := h w hs
  have h1 := h'.le
  have h2 := h'.cap
  refine ⟨by simp; omega, by omega, ?_, ?_⟩
  · intro e
    unfold Sx.sl at e
    split at e
    · omega
    · cases a with
      | none => have := h'.nil rfl; omega
      | some ad => cases e
  · intro ad e
    unfold Sx.sl at e
    split at e
    · rename_i hc
      have : xs.drop j = [] := List.drop_of_length_le (by omega)
      rw [this]
      intro i v hv; simp at hv
    · cases a with
      | none => cases e
      | some ad0 =>
        simp only [Option.map_some, Option.some.injEq] at e
        subst e
        intro i v hv
        rw [add_add]
        refine h'.cells ad0 rfl _ _ ?_
        have : flat (xs.take j) ++ flat (xs.drop j) = flat xs := by rw [flat, flat, ← List.flatMap_append, List.take_append_drop]
        rw [← this, List.getElem?_append_right (by rw [flat_length]; simp; have : min j xs.length = j := by omega
                                                   rw [this]; omega), flat_length]
        rw [List.length_take, Nat.min_eq_left hj, Nat.add_sub_cancel_left]
        exact hv
theorem RSl.some {xs : List α} (h : RSl w0 H a c xs) (hx : 0 < xs.length) : Kn w0 H (∃ ad, a = some ad) := fun w hs => by
  have h' := h w hs
  cases a with
  | none => have := h'.nil rfl; have := h'.le; omega
  | some ad => exact ⟨ad, rfl⟩
theorem Kn.sl {xs : List α} (h : RSl w0 H a c xs) : Kn w0 H (xs.length ≤ c ∧ c ≤ maxLen) := fun w hs => ⟨(h w hs).le, (h w hs).cap⟩
theorem Kn.by {xs : List UInt8} (h : RBy w0 H a c xs) : Kn w0 H (xs.length ≤ c ∧ c ≤ maxLen) := Kn.sl h.sl'
theorem Kn.en {es : List KV} (h : REn w0 H a c es) : Kn w0 H (es.length ≤ c ∧ c ≤ maxLen) := Kn.sl h.sl'
/-! Cells. -/
theorem Rc.hb {b o : Nat} {T : TypeId} {vs : List Value} {v : Value} (hv : vs[o]? = Option.some v) : Rc w0 (.hb b T vs :: H) ((⟨b, 0, none⟩ : Addr).add o) v := fun _ hs => (Sat.hbOf (c' := .hb b T vs) .hd hs).cell o hv
theorem Rc.hb0 {b : Nat} {T : TypeId} {vs : List Value} {v : Value} (hv : vs[0]? = Option.some v) : Rc w0 (.hb b T vs :: H) ⟨b, 0, none⟩ v := fun _ hs => (Sat.hbOf (c' := .hb b T vs) .hd hs).cell0 hv
theorem RcA.hb {b : Nat} {T : TypeId} {vs : List Value} : RcA w0 (.hb b T vs :: H) ⟨b, 0, none⟩ vs := fun _ hs => (Sat.hbOf (c' := .hb b T vs) .hd hs).cells
theorem RcA.hbo {b o n : Nat} {T : TypeId} {vs : List Value} : RcA w0 (.hb b T vs :: H) ((⟨b, 0, none⟩ : Addr).add o) ((vs.drop o).take n) := fun w hs i v hv => by
  have h := (Sat.hbOf (c' := .hb b T vs) .hd hs)
  rw [add_add]
  refine h.cells (o + i) v ?_
  simp only [List.getElem?_take, List.getElem?_drop] at hv
  split at hv
  · exact hv
  · cases hv
theorem Rc.by {xs : List UInt8} (h : RBy w0 H (some ad) c xs) {i : Nat} (hi : i < xs.length) : Rc w0 H (ad.add (i * 1)) (bv (xs.getD i 0)) := fun w hs => (h w hs).cell hi
theorem Rc.sl {xs : List α} (h : RSl w0 H (some ad) c xs) {i : Nat} {x : α} (hx : xs[i]? = Option.some x) {v : Value} (hv : (Cel.f x)[0]? = Option.some v) : Rc w0 H (ad.add (i * Cel.sz α)) v := fun w hs => by
  have := (h w hs).at hx 0 v hv
  rwa [add_add] at this
theorem Rc.slo {xs : List α} (h : RSl w0 H (some ad) c xs) {i o : Nat} {x : α} (hx : xs[i]? = Option.some x) {v : Value} (hv : (Cel.f x)[o]? = Option.some v) : Rc w0 H ((ad.add (i * Cel.sz α)).add o) v := fun w hs => (h w hs).at hx o v hv
theorem RcA.sl {xs : List α} (h : RSl w0 H (some ad) c xs) {i : Nat} {x : α} (hx : xs[i]? = Option.some x) : RcA w0 H (ad.add (i * Cel.sz α)) (Cel.f x) := fun w hs => (h w hs).at hx
end

/-! ### Looks -/
section
variable {P : Program} {l : List (Nat × Value)} {d : Option Tmp} {ty : TypeId} {pos : String} {af : Array Edge} {g : Option (Nat × Bool)}
theorem y_ld {x : Operand} {T : TypeId} [h : ScT P T] {a : Addr} {v : Value} (hx : ev l x = some (.pointer (some a))) (hc : Rc w0 H a v) :
    Y P (Sat w0 H) ⟨d, .load T x, ty, pos, af, g⟩ l v := y_load hx hc
theorem y_ldA {x : Operand} {T : TypeId} {sz : Nat} [h : AgT P T sz] {a : Addr} {vs : List Value} (hx : ev l x = some (.pointer (some a))) (hc : RcA w0 H a vs) (hl : vs.length = sz) :
    Y P (Sat w0 H) ⟨d, .load T x, ty, pos, af, g⟩ l (.agg vs.toArray) := y_loadA hx hc hl
theorem y_st {x : Operand} {T U : TypeId} [hT : ByT P T] [hU : StT P U] {a : Option Addr} {c : Nat} {xs : Bs} (hx : ev l x = some (.slice a xs.length c)) (hb : RBy w0 H a c xs) :
    Y P (Sat w0 H) ⟨d, .convert T U x, ty, pos, af, g⟩ l (str xs) := y_str hx hb
end
end Go.Sx
namespace Go.Sx
open Go

inductive Md where
  | seq
  | held (Hs : List Ck)
def Md.mode (w0 : World) : Md → Mode
  | .seq => Sx.seq
  | .held Hs => Sx.held (Sat w0 Hs)
def Md.act : Md → Bool → Bool
  | .seq, _ => true
  | .held _, b => !b
def Chk : Md → List Ck → Prop
  | .seq, _ => True
  | .held Hs, H => Ent H Hs
theorem chk_seq {H : List Ck} : Chk .seq H := trivial
theorem chk_held {H Hs : List Ck} (h : Ent H Hs) : Chk (.held Hs) H := h
theorem Chk.out {M : Md} {H : List Ck} (h : Chk M H) {w0 w : World} (hs : Sat w0 H w) : (M.mode w0).chk w := by
  cases M with
  | seq => trivial
  | held Hs => exact hs.ent h
theorem Md.any {M : Md} {w0 : World} {b : Bool} (h : M.act b = true) : ((M.mode w0).any || !b) = true := by
  cases M with
  | seq => simp [Md.mode, Sx.seq]
  | held Hs => simpa [Md.mode, Sx.held, Md.act] using h

structure SC (P : Program) (n : Nat) (ds : Dx) (c : Code) (Q : Exit → Act → World → Prop) (l : List (Nat × Value)) (w0 : World) (H : List Ck) : Prop where
  out : ∀ w, Sat w0 H w → CJ P n ds c Q l w
structure SQ (n : Nat) (ds : Dx) (Q : Exit → Act → World → Prop) (e : Exit) (l : List (Nat × Value)) (w0 : World) (H : List Ck) : Prop where
  out : ∀ w, Sat w0 H w → QJ n ds Q e l w
structure SL (M : Md) (P : Program) (n : Nat) (ds : Dx) (ops : Array Oper) (Q : Exit → Act → World → Prop) (rest : Tr) (l : List (Nat × Value)) (w0 : World) (H : List Ck) : Prop where
  out : ∀ w, Sat w0 H w → LJ (M.mode w0) P n ds ops Q rest l w

section
variable {P : Program} {n : Nat} {ds : Dx} {Q : Exit → Act → World → Prop} {l l' : List (Nat × Value)} {w0 : World} {H H' : List Ck} {M : Md} {ops : Array Oper} {rest : Tr}

/-! #### What is known, what is let go -/
theorem s_kn {c : Code} {φ : Prop} (k : Kn w0 H φ) (h : φ → SC P n ds c Q l w0 H) : SC P n ds c Q l w0 H := .mk fun w hs => (h (k w hs)).out w hs
theorem s_knL {φ : Prop} (k : Kn w0 H φ) (h : φ → SL M P n ds ops Q rest l w0 H) : SL M P n ds ops Q rest l w0 H := .mk fun w hs => (h (k w hs)).out w hs
theorem s_ent {c : Code} (H' : List Ck) (e : Ent H H') (h : SC P n ds c Q l w0 H') : SC P n ds c Q l w0 H := .mk fun w hs => h.out w (hs.ent e)
theorem s_entL (H' : List Ck) (e : Ent H H') (h : SL M P n ds ops Q rest l w0 H') : SL M P n ds ops Q rest l w0 H := .mk fun w hs => h.out w (hs.ent e)
theorem s_sub {c : Code} (h : SC P n ds c Q l' w0 H) (hs : Sub l' l) : SC P n ds c Q l w0 H := .mk fun w h' => (h.out w h').sub hs

/-- Where a walk is to stop. -/
def StopAt (_ : Nat) : Prop := True
theorem s_stop {id : Nat} {os : Array Oper} {dr : Bool} (_h : StopAt id) (k : SC P n ds (.region id os dr) Q l w0 H) : SC P n ds (.region id os dr) Q l w0 H := k
/-! #### Code -/
theorem s_seq {x y : Code} (h : SC P n ds x (Exit.then (fun a w => y.wpIn (fR ds.r) 0 P Q a w) Q) l w0 H) : SC P n ds (.seq x y) Q l w0 H := .mk fun w hs => c_seq (h.out w hs)
theorem s_cond {c : Operand} {x y : Code} {t : Bool} (hc : ev l c = some (.bool t)) (ht : t = true → SC P n ds x Q l w0 H) (hf : t = false → SC P n ds y Q l w0 H) : SC P n ds (.cond c x y) Q l w0 H :=
  .mk fun w hs => c_cond hc (fun h => (ht h).out w hs) (fun h => (hf h).out w hs)
theorem s_condT {c : Operand} {x y : Code} (hc : ev l c = some (.bool true)) (ht : SC P n ds x Q l w0 H) : SC P n ds (.cond c x y) Q l w0 H := .mk fun w hs => c_condT hc (ht.out w hs)
theorem s_condF {c : Operand} {x y : Code} (hc : ev l c = some (.bool false)) (hf : SC P n ds y Q l w0 H) : SC P n ds (.cond c x y) Q l w0 H := .mk fun w hs => c_condF hc (hf.out w hs)
theorem s_if {c : Operand} {x y : Code} {p : Prop} [Decidable p] (hc : ev l c = some (.bool (decide p))) (ht : p → SC P n ds x Q l w0 H) (hf : ¬ p → SC P n ds y Q l w0 H) : SC P n ds (.cond c x y) Q l w0 H :=
  .mk fun w hs => c_if hc (fun h => (ht h).out w hs) (fun h => (hf h).out w hs)
theorem s_ifn {c : Operand} {x y : Code} {p : Prop} [Decidable p] (hc : ev l c = some (.bool (!decide p))) (ht : ¬ p → SC P n ds x Q l w0 H) (hf : p → SC P n ds y Q l w0 H) : SC P n ds (.cond c x y) Q l w0 H :=
  .mk fun w hs => c_ifn hc (fun h => (ht h).out w hs) (fun h => (hf h).out w hs)
theorem s_block {id : Nat} {c : Code} (h : SC P n ds c (Exit.inBlock id Q) l w0 H) : SC P n ds (.block id c) Q l w0 H := .mk fun w hs => c_block (h.out w hs)
theorem s_skip (h : SQ n ds Q .normal l w0 H) : SC P n ds .skip Q l w0 H := .mk fun w hs => c_skip (h.out w hs)
theorem s_exit {id : Nat} (h : SQ n ds Q (.exit id) l w0 H) : SC P n ds (.exit id) Q l w0 H := .mk fun w hs => c_exit (h.out w hs)
theorem s_ret (h : SQ n ds Q .ret l w0 H) : SC P n ds .ret Q l w0 H := .mk fun w hs => c_ret (h.out w hs)
theorem s_reg {id : Nat} {lo : List Oper} (h : SL .seq P n ds lo.toArray Q (Tr.ofList lo) l w0 H) : SC P n ds (.region id lo.toArray false) Q l w0 H := .mk fun w hs => c_reg (h.out w hs)
/-- A region that draws its order; Hs: what stands through all of it. -/
theorem s_drH {id : Nat} {lo : List Oper} (Hs : List Ck) (π : It) (hm : P.follows .mixedOrders = true)
    (hc : (Region.noSelect lo.toArray && noDefer lo && (π.depth == lo.toArray.size) && π.level && chkOrder lo.toArray π true (Array.replicate lo.toArray.size false)) = true)
    (h : SL (.held Hs) P n ds lo.toArray (NoPan Q) (ordered lo.toArray π) l w0 H) (he : Ent H Hs := by first | exact entq | exact ent) : SC P n ds (.region id lo.toArray true) Q l w0 H :=
  .mk fun w hs => c_draw (Sat w0 Hs) π hm hc ((hs.ex (Ext.drew w)).ent he) (h.out _ (hs.ex (Ext.drew w)))
theorem s_dr {id : Nat} {lo : List Oper} (π : It) (hm : P.follows .mixedOrders = true)
    (hc : (Region.noSelect lo.toArray && noDefer lo && (π.depth == lo.toArray.size) && π.level && chkOrder lo.toArray π true (Array.replicate lo.toArray.size false)) = true)
    (h : SL (.held H) P n ds lo.toArray (NoPan Q) (ordered lo.toArray π) l w0 H) : SC P n ds (.region id lo.toArray true) Q l w0 H := s_drH H π hm hc h Ent.refl
/-- All stands through it but the piece c. -/
theorem s_drR {id : Nat} {lo : List Oper} (c : Ck) {Hs : List Ck} (hr : Rm c H Hs) (π : It) (hm : P.follows .mixedOrders = true)
    (hc : (Region.noSelect lo.toArray && noDefer lo && (π.depth == lo.toArray.size) && π.level && chkOrder lo.toArray π true (Array.replicate lo.toArray.size false)) = true)
    (h : SL (.held Hs) P n ds lo.toArray (NoPan Q) (ordered lo.toArray π) l w0 H) : SC P n ds (.region id lo.toArray true) Q l w0 H := s_drH Hs π hm hc h (Ent.rm hr)
/-! #### Ways out -/
theorem s_next {y : Code} {Q' : Exit → Act → World → Prop} (h : SC P n ds y Q l w0 H) : SQ n ds (Exit.then (fun a w => y.wpIn (fR ds.r) 0 P Q a w) Q') .normal l w0 H := .mk fun w hs => q_next (h.out w hs)
theorem s_then_exit {K : Act → World → Prop} {id : Nat} (h : SQ n ds Q (.exit id) l w0 H) : SQ n ds (Exit.then K Q) (.exit id) l w0 H := .mk fun w hs => q_then_exit (h.out w hs)
theorem s_then_ret {K : Act → World → Prop} (h : SQ n ds Q .ret l w0 H) : SQ n ds (Exit.then K Q) .ret l w0 H := .mk fun w hs => q_then_ret (h.out w hs)
theorem s_blk_normal {id : Nat} (h : SQ n ds Q .normal l w0 H) : SQ n ds (Exit.inBlock id Q) .normal l w0 H := .mk fun w hs => q_blk_normal (h.out w hs)
theorem s_blk_ret {id : Nat} (h : SQ n ds Q .ret l w0 H) : SQ n ds (Exit.inBlock id Q) .ret l w0 H := .mk fun w hs => q_blk_ret (h.out w hs)
theorem s_blk_hit {id : Nat} (h : SQ n ds Q .normal l w0 H) : SQ n ds (Exit.inBlock id Q) (.exit id) l w0 H := .mk fun w hs => q_blk_hit (h.out w hs)
theorem s_blk_miss {id id' : Nat} (hne : Nat.beq id' id = false) (h : SQ n ds Q (.exit id') l w0 H) : SQ n ds (Exit.inBlock id Q) (.exit id') l w0 H := .mk fun w hs => q_blk_miss hne (h.out w hs)
theorem s_nopan (h : SQ n ds Q .normal l w0 H) : SQ n ds (NoPan Q) .normal l w0 H := .mk fun w hs => q_nopan_normal (h.out w hs)

/-! #### Loops, cuts -/
theorem s_loop {ι : Type} (I : ι → List (Nat × Value)) (HI : ι → List Ck) (φ : ι → Prop) (μ : ι → Nat) {c : Code} (i0 : ι) (h1 : φ i0)
    (round : ∀ i, φ i → SC P n ds c (Exit.then (Again n ds I (fun i w => φ i ∧ Sat w0 (HI i) w) μ i) Q) (I i) w0 (HI i)) (h0 : Sub (I i0) l := by repeat (first | exact trivial | refine And.intro (by first | exact rfl | exact congrArg some (ci (by omega))) ?_)) (he : Ent H (HI i0) := by first | exact entq | exact ent) : SC P n ds (.loop c) Q l w0 H :=
  .mk fun _ hs => c_loop I (fun i w => φ i ∧ Sat w0 (HI i) w) μ i0 h0 ⟨h1, hs.ent he⟩ fun i w' hi => (round i hi.1).out w' hi.2
theorem s_again {ι : Type} {I : ι → List (Nat × Value)} {HI : ι → List Ck} {φ : ι → Prop} {μ : ι → Nat} {i : ι} (j : ι) (hi : φ j) (hm : μ j < μ i) (hs : Sub (I j) l := by repeat (first | exact trivial | refine And.intro (by first | exact rfl | exact congrArg some (ci (by omega))) ?_)) (he : Ent H (HI j) := by first | exact entq | exact ent) :
    SQ n ds (Exit.then (Again n ds I (fun i w => φ i ∧ Sat w0 (HI i) w) μ i) Q) .normal l w0 H := .mk fun _ h => q_again j hs ⟨hi, h.ent he⟩ hm
theorem s_cut {ι : Type} (I : ι → List (Nat × Value)) (HI : ι → List Ck) (φ : ι → Prop) {x y : Code} {Q' : Exit → Act → World → Prop}
    (h1 : SC P n ds x (Exit.then (Mid n ds I (fun i w => φ i ∧ Sat w0 (HI i) w)) Q) l w0 H) (h2 : ∀ i, φ i → SC P n ds y Q' (I i) w0 (HI i)) : SC P n ds x (Exit.then (fun a w => y.wpIn (fR ds.r) 0 P Q' a w) Q) l w0 H :=
  .mk fun w hs => c_cut I (fun i w => φ i ∧ Sat w0 (HI i) w) (h1.out w hs) fun i w' hi a ha => ((h2 i hi.1).out w' hi.2).out a ha
theorem s_mid {ι : Type} {I : ι → List (Nat × Value)} {HI : ι → List Ck} {φ : ι → Prop} (j : ι) (hi : φ j) (hs : Sub (I j) l := by repeat (first | exact trivial | refine And.intro (by first | exact rfl | exact congrArg some (ci (by omega))) ?_)) (he : Ent H (HI j) := by first | exact entq | exact ent) :
    SQ n ds (Exit.then (Mid n ds I (fun i w => φ i ∧ Sat w0 (HI i) w)) Q) .normal l w0 H := .mk fun _ h => q_mid j hs ⟨hi, h.ent he⟩

/-! #### Steps of a region -/
theorem s_nil (h : SQ n ds Q .normal l w0 H) : SL M P n ds ops Q .nil l w0 H := .mk fun w hs => l_nil (h.out w hs)
theorem s_alt {r s : Tr} (h1 : SL M P n ds ops Q r l w0 H) (h2 : SL M P n ds ops Q s l w0 H) : SL M P n ds ops Q (.alt r s) l w0 H := .mk fun w hs => l_alt (h1.out w hs) (h2.out w hs)
variable {b : Bool} {op : Op} {ty : TypeId} {pos : String} {af : Array Edge} {g : Option (Nat × Bool)}
/-- Does it look only? (A guard ahead of a dear search; nothing rests on it.) -/
def lk : Op → Bool
  | .move _ | .assign _ | .pick .. | .binOp .. | .unOp .. | .fieldAddr .. | .field .. | .indexAddr .. | .index .. | .load .. | .slice .. | .nilCheck _ | .extract .. | .build .. | .makeInterface .. | .makeFunc .. | .convert .. | .typeAssert .. => true
  | .call { callee := .builtin .len, .. } | .call { callee := .builtin .cap, .. } | .call { callee := .builtin .min, .. } | .call { callee := .builtin .max, .. } => true
  | _ => false
/-- It is a region's step; of one that draws. -/
theorem s_gL (h : SL M P n ds ops Q rest l w0 H) : SL M P n ds ops Q rest l w0 H := h
theorem s_gH {Hs : List Ck} (h : SL (.held Hs) P n ds ops Q rest l w0 H) : SL (.held Hs) P n ds ops Q rest l w0 H := h
theorem s_yS {d : Nat} {v : Value} (_hk : lk op = true) (hg : gOk ops l g = true) (hd : Nat.blt d n = true) (hy : Y P (Sat w0 H) ⟨some d, op, ty, pos, af, g⟩ l v)
    (h : SL .seq P n ds ops Q rest ((d, v) :: l) w0 H) : SL .seq P n ds ops Q (.one b ⟨some d, op, ty, pos, af, g⟩ rest) l w0 H :=
  .mk fun w hs => l_y hg hd (.mk fun w' hw' => by cases (hw' : w' = w); exact hy.out w hs) (h.out w hs)
theorem s_yH {Hs : List Ck} {d : Nat} {v : Value} (_hk : lk op = true) (hg : gOk ops l g = true) (hd : Nat.blt d n = true) (hy : Y P (Sat w0 Hs) ⟨some d, op, ty, pos, af, g⟩ l v)
    (h : SL (.held Hs) P n ds ops Q rest ((d, v) :: l) w0 H) : SL (.held Hs) P n ds ops Q (.one b ⟨some d, op, ty, pos, af, g⟩ rest) l w0 H :=
  .mk fun w hs => l_y hg hd (.mk fun w' hw' => hy.out w' hw') (h.out w hs)
/-- A look in a region that draws, where it stands alone. -/
theorem s_yA {Hs : List Ck} {d : Nat} {v : Value} (hg : gOk ops l g = true) (hd : Nat.blt d n = true) (hy : Y P (Sat w0 H) ⟨some d, op, ty, pos, af, g⟩ l v)
    (h : SL (.held Hs) P n ds ops Q rest ((d, v) :: l) w0 H) (hk : Chk (.held Hs) H) : SL (.held Hs) P n ds ops Q (.one false ⟨some d, op, ty, pos, af, g⟩ rest) l w0 H :=
  .mk fun w hs => l_act (Md.any (M := .held Hs) rfl) hg hd (.mk fun w' hw' => by cases hw'; exact hy.out w hs) (hk.out hs) (h.out w hs)
theorem s_sk {d : Nat} (hg : gNo ops l g = true) (hd : Nat.blt d n = true) (h : SL M P n ds ops Q rest ((d, undef) :: l) w0 H) : SL M P n ds ops Q (.one b ⟨some d, op, ty, pos, af, g⟩ rest) l w0 H := .mk fun w hs => l_sk hg hd (h.out w hs)
theorem s_lif {d j dj : Nat} {t : Bool} {p : Prop} [Decidable p] (hg : gd ops l j = some (dj, decide p))
    (hT : p → SL M P n ds ops Q (.one b ⟨some d, op, ty, pos, af, some (j, t)⟩ rest) ((dj, .bool true) :: l) w0 H) (hF : ¬ p → SL M P n ds ops Q (.one b ⟨some d, op, ty, pos, af, some (j, t)⟩ rest) ((dj, .bool false) :: l) w0 H) :
    SL M P n ds ops Q (.one b ⟨some d, op, ty, pos, af, some (j, t)⟩ rest) l w0 H := .mk fun w hs => l_if hg (fun h => (hT h).out w hs) (fun h => (hF h).out w hs)
theorem s_lifn {d j dj : Nat} {t : Bool} {p : Prop} [Decidable p] (hg : gd ops l j = some (dj, !decide p))
    (hT : ¬ p → SL M P n ds ops Q (.one b ⟨some d, op, ty, pos, af, some (j, t)⟩ rest) ((dj, .bool true) :: l) w0 H) (hF : p → SL M P n ds ops Q (.one b ⟨some d, op, ty, pos, af, some (j, t)⟩ rest) ((dj, .bool false) :: l) w0 H) :
    SL M P n ds ops Q (.one b ⟨some d, op, ty, pos, af, some (j, t)⟩ rest) l w0 H := .mk fun w hs => l_ifn hg (fun h => (hT h).out w hs) (fun h => (hF h).out w hs)
theorem s_lsp {d j dj : Nat} {t t' : Bool} (hg : gd ops l j = some (dj, t'))
    (hT : t' = true → SL M P n ds ops Q (.one b ⟨some d, op, ty, pos, af, some (j, t)⟩ rest) ((dj, .bool true) :: l) w0 H) (hF : t' = false → SL M P n ds ops Q (.one b ⟨some d, op, ty, pos, af, some (j, t)⟩ rest) ((dj, .bool false) :: l) w0 H) :
    SL M P n ds ops Q (.one b ⟨some d, op, ty, pos, af, some (j, t)⟩ rest) l w0 H := .mk fun w hs => l_sp hg (fun h => (hT h).out w hs) (fun h => (hF h).out w hs)
theorem s_rw {t : Nat} {v v' : Value} (h : look l t = some v) (e : v = v') (k : SL M P n ds ops Q rest ((t, v') :: l) w0 H) : SL M P n ds ops Q rest l w0 H := .mk fun w hs => l_rw h e (k.out w hs)
end

/-! ### Functions -/
/-- What a call leaves: its value and a list of pieces. -/
def RS (w0 : World) (R : Value → List Ck → Prop) : Value → World → Prop := fun v w => ∃ H', R v H' ∧ Sat w0 H' w
/-- A contract: called in any world of which the list holds. -/
def FnS (P : Program) (w0 : World) (H : List Ck) (k : FuncId) (args : Array Value) (R : Value → List Ck → Prop) : Prop := ∀ w, Sat w0 H w → Fn P k args w (RS w0 R)
/-- It gives this value, and nothing has turned. -/
def FnV (P : Program) (w0 : World) (H : List Ck) (k : FuncId) (args : Array Value) (v : Value) : Prop := FnS P w0 H k args fun v' H' => v' = v ∧ H' = H
section
variable {P : Program} {fn : Func} {R : Value → List Ck → Prop} {n : Nat} {l : List (Nat × Value)} {w0 : World} {H H' : List Ck}
theorem fns_enter {k : FuncId} {c : Code} {args : List Value} (hf : P.funcs[k]? = some fn) (hb : fn.body = some c) (hn : fn.ntmps = n) (hl : Nat.ble args.length n = true)
    (h : SC P n dx0 c (bodyPost P fn (RetR (RS w0 R))) (slots 0 args) w0 H) : FnS P w0 H k args.toArray R := fun w hs => fn_enter hf hb hn hl (h.out w hs)
theorem FnS.mono {k : FuncId} {args : Array Value} {R' : Value → List Ck → Prop} (h : FnS P w0 H k args R) (hr : ∀ v H', R v H' → R' v H') : FnS P w0 H k args R' :=
  fun w hs => (h w hs).mono fun _ _ ⟨H', h1, h2⟩ => ⟨H', hr _ _ h1, h2⟩
theorem FnS.ent {k : FuncId} {args : Array Value} (h : FnS P w0 H' k args R) (e : Ent H H') : FnS P w0 H k args R := fun w hs => h w (hs.ent e)
/-- A contract in the words of worlds: a value, nothing has turned. -/
theorem FnV.of {k : FuncId} {args : Array Value} {v : Value} (h : ∀ w, Sat w0 H w → Fn P k args w fun v' w' => v' = v ∧ Ex w w') : FnV P w0 H k args v :=
  fun w hs => (h w hs).mono fun _ _ ⟨h1, h2⟩ => ⟨H, ⟨h1, rfl⟩, hs.ex h2⟩
theorem s_ret1 {t : Tmp} {v : Value} (hr : fn.results = #[.tmp t]) (hl : look l t = some v) (h : R v H') (he : Ent H H' := by first | exact entq | exact ent) : SQ n dx0 (bodyPost P fn (RetR (RS w0 R))) .ret l w0 H :=
  .mk fun _ hs => q_ret1 hr hl ⟨H', h, hs.ent he⟩
theorem s_ret2 {t u : Tmp} {v v' : Value} (hr : fn.results = #[.tmp t, .tmp u]) (hl : look l t = some v) (hl' : look l u = some v') (h : R (.tuple #[v, v']) H') (he : Ent H H' := by first | exact entq | exact ent) : SQ n dx0 (bodyPost P fn (RetR (RS w0 R))) .ret l w0 H :=
  .mk fun _ hs => q_ret2 hr hl hl' ⟨H', h, hs.ent he⟩
theorem s_ret0 (hr : fn.results = #[]) (h : R (.tuple #[]) H') (he : Ent H H' := by first | exact entq | exact ent) : SQ n dx0 (bodyPost P fn (RetR (RS w0 R))) .ret l w0 H := .mk fun _ hs => q_ret0 hr ⟨H', h, hs.ent he⟩
theorem s_end0 (hr : fn.results = #[]) (h : R (.tuple #[]) H') (he : Ent H H' := by first | exact entq | exact ent) : SQ n dx0 (bodyPost P fn (RetR (RS w0 R))) .normal l w0 H := .mk fun _ hs => q_end0 hr ⟨H', h, hs.ent he⟩
/-- A struct that lies in a variable is returned. -/
theorem s_retc {t : Tmp} {T : TypeId} {sz : Nat} [h : AgT P T sz] {k U : Nat} {vs : List Value} {H1 : List Ck} (hr : fn.results = #[.cell t T]) (hl : look l t = some (.pointer (some ⟨k, 0, none⟩))) (hB : At (.hb k U vs) (.hb k U vs) H H1) (hz : vs.length = sz)
    (hR : R (.agg vs.toArray) H') (he : Ent H H' := by first | exact entq | exact ent) : SQ n dx0 (bodyPost P fn (RetR (RS w0 R))) .ret l w0 H := .mk fun _ hs => q_retc hr hl (Sat.hbOf hB hs) hz ⟨H', hR, hs.ent he⟩
end
end Go.Sx
namespace Go.Sx
open Go

/-- The cells of a new variable. -/
class ZcT (P : Program) (T : TypeId) (vs : outParam (List Value)) : Prop where
  run : ∃ z, (∀ w, (zeroValue T).run P w = .ok z w) ∧ z.cells.toList = vs
instance {P : Program} {T : TypeId} {cs : List Value} [h : ZeT P T (.agg cs.toArray)] : ZcT P T cs := ⟨_, h.run, rfl⟩
instance {P : Program} {T : TypeId} {k : IntKind} {n : Int} [h : ZeT P T (.int k n)] : ZcT P T [.int k n] := ⟨_, h.run, rfl⟩
instance {P : Program} {T : TypeId} {b : Bool} [h : ZeT P T (.bool b)] : ZcT P T [.bool b] := ⟨_, h.run, rfl⟩
instance {P : Program} {T : TypeId} {s : ByteArray} [h : ZeT P T (.string s)] : ZcT P T [.string s] := ⟨_, h.run, rfl⟩
instance {P : Program} {T : TypeId} {a : Option Addr} {n c : Nat} [h : ZeT P T (.slice a n c)] : ZcT P T [.slice a n c] := ⟨_, h.run, rfl⟩
instance {P : Program} {T : TypeId} {a : Option Addr} [h : ZeT P T (.pointer a)] : ZcT P T [.pointer a] := ⟨_, h.run, rfl⟩
instance {P : Program} {T : TypeId} {a : Option Nat} [h : ZeT P T (.map a)] : ZcT P T [.map a] := ⟨_, h.run, rfl⟩
instance {P : Program} {T : TypeId} [h : ZeT P T .nilFunc] : ZcT P T [.nilFunc] := ⟨_, h.run, rfl⟩
instance {P : Program} {T : TypeId} [h : ZeT P T .nilIface] : ZcT P T [.nilIface] := ⟨_, h.run, rfl⟩
/-- Of which Lean type a Go type's things are. -/
class ElT (P : Program) (E : TypeId) (α : outParam Type) : Prop where
  ok : True

/-- Cells that may be read, and written no more. -/
def roAs (k : Nat) (vs : List Value) : As := ⟨fun w S => Cells w ⟨k, 0, none⟩ vs ∧ S k, fun {w w'} {_} h he => ⟨fun i v hi => by
  have := h.1 i v hi
  have hb : ((⟨k, 0, none⟩ : Addr).add i).block = k := by unfold Addr.add; split <;> rfl
  rw [World.cell?_of_block (w := w) (w' := w') (he _ (by rw [hb]; exact h.2))]; exact this, h.2⟩⟩
def Ck.ro (k : Nat) (vs : List Value) : Ck := .u (roAs k vs)

section
variable {P : Program} {n : Nat} {ds : Dx} {Q : Exit → Act → World → Prop} {l l' : List (Nat × Value)} {w0 : World} {H : List Ck} {M : Md} {ops : Array Oper} {rest : Tr} {b : Bool} {ty : TypeId} {pos : String} {af : Array Edge} {g : Option (Nat × Bool)}

theorem RBy.ro {k : Nat} {xs : List UInt8} {vs : List Value} (hv : vs = xs.map bv) (hl : xs.length ≤ maxLen) : RBy w0 (Ck.ro k vs :: H) (some ⟨k, 0, none⟩) xs.length xs := fun w hs => by
  subst hv
  obtain ⟨S, _, h, _⟩ := hs.hd
  exact ⟨Nat.le_refl _, hl, fun e => (by cases e), fun ad e => (by cases e; exact h)⟩

/-! ### New variables -/
theorem s_alloc {d : Nat} {T : TypeId} {vs : List Value} [hz : ZcT P T vs] (h : ∀ k, SL M P n ds ops Q rest ((d, .pointer (some ⟨k, 0, none⟩)) :: l) w0 (.hb k T vs :: H))
    (hb : M.act b = true := by exact rfl) (hg : gOk ops l g = true := by exact rfl) (hd : Nat.blt d n = true := by exact rfl) (hk : ∀ k, Chk M (.hb k T vs :: H) := by intros; first | exact chk_seq | exact chk_held (by exact entq) | exact chk_held (by exact ent)) : SL M P n ds ops Q (.one b ⟨some d, .alloc T, ty, pos, af, g⟩ rest) l w0 H := .mk fun w hs => by
  obtain ⟨z, h1, rfl⟩ := hz.run
  haveI : ZeT P T z := ⟨h1⟩
  exact l_alloc (Md.any hb) hg hd fun k w' hN => ⟨(hk k).out (hN.sat hs), (h k).out w' (hN.sat hs)⟩
theorem s_boxA {d : Nat} {T : TypeId} {x : Operand} {cs : List Value} (hx : ev l x = some (.agg cs.toArray)) (h : ∀ k, SL M P n ds ops Q rest ((d, .pointer (some ⟨k, 0, none⟩)) :: l) w0 (.hb k T cs :: H))
    (hb : M.act b = true := by exact rfl) (hg : gOk ops l g = true := by exact rfl) (hd : Nat.blt d n = true := by exact rfl) (hk : ∀ k, Chk M (.hb k T cs :: H) := by intros; first | exact chk_seq | exact chk_held (by exact entq) | exact chk_held (by exact ent)) : SL M P n ds ops Q (.one b ⟨some d, .box T x, ty, pos, af, g⟩ rest) l w0 H := .mk fun _ hs =>
  l_box (Md.any hb) hg hd hx fun k w' hN => ⟨(hk k).out (hN.sat (vs := cs) hs), (h k).out w' (hN.sat (vs := cs) hs)⟩
theorem s_box1 {d : Nat} {T : TypeId} {x : Operand} {v : Value} (hx : ev l x = some v) (hv : v.oneCell' = true) (h : ∀ k, SL M P n ds ops Q rest ((d, .pointer (some ⟨k, 0, none⟩)) :: l) w0 (.hb k T [v] :: H))
    (hb : M.act b = true := by exact rfl) (hg : gOk ops l g = true := by exact rfl) (hd : Nat.blt d n = true := by exact rfl) (hk : ∀ k, Chk M (.hb k T [v] :: H) := by intros; first | exact chk_seq | exact chk_held (by exact entq) | exact chk_held (by exact ent)) : SL M P n ds ops Q (.one b ⟨some d, .box T x, ty, pos, af, g⟩ rest) l w0 H := .mk fun _ hs => by
  have hc : v.cells.toList = [v] := by cases v <;> first | rfl | simp [Value.oneCell'] at hv
  exact l_box (Md.any hb) hg hd hx fun k w' hN => by
    rw [hc] at hN
    exact ⟨(hk k).out (hN.sat hs), (h k).out w' (hN.sat hs)⟩

/-! ### Stores into variables -/
/-- It is a store. -/
theorem s_gst {T : TypeId} {p x : Operand} (k : SL M P n ds ops Q (.one b ⟨none, .store T p x, ty, pos, af, g⟩ rest) l w0 H) : SL M P n ds ops Q (.one b ⟨none, .store T p x, ty, pos, af, g⟩ rest) l w0 H := k
theorem s_store {T : TypeId} [ht : ScT P T] {p x : Operand} {k o : Nat} {U : TypeId} {vs : List Value} {v : Value} {H' : List Ck} (hp : ev l p = some (.pointer (some ((⟨k, 0, none⟩ : Addr).add o)))) (hx : ev l x = some v)
    (hA : At (.hb k U vs) (.hb k U (vs.set o v)) H H') (ho : Nat.blt o vs.length = true) (hv : v.oneCell' = true) (h : SL M P n ds ops Q rest l w0 H')
    (hb : M.act b = true := by exact rfl) (hg : gOk ops l g = true := by exact rfl) (hk : Chk M H' := by intros; first | exact chk_seq | exact chk_held (by exact entq) | exact chk_held (by exact ent)) : SL M P n ds ops Q (.one b ⟨none, .store T p x, ty, pos, af, g⟩ rest) l w0 H := .mk fun _ hs =>
  l_store (Md.any hb) hg hp hx (Sat.hbOf hA hs) (by simpa using ho) hv fun w' h1 h2 _ => ⟨hk.out (hs.hb hA h1 h2), h.out w' (hs.hb hA h1 h2)⟩
theorem s_store0 {T : TypeId} [ht : ScT P T] {p x : Operand} {k : Nat} {U : TypeId} {vs : List Value} {v : Value} {H' : List Ck} (hp : ev l p = some (.pointer (some ⟨k, 0, none⟩))) (hx : ev l x = some v)
    (hA : At (.hb k U vs) (.hb k U (vs.set 0 v)) H H') (ho : Nat.blt 0 vs.length = true) (hv : v.oneCell' = true) (h : SL M P n ds ops Q rest l w0 H')
    (hb : M.act b = true := by exact rfl) (hg : gOk ops l g = true := by exact rfl) (hk : Chk M H' := by intros; first | exact chk_seq | exact chk_held (by exact entq) | exact chk_held (by exact ent)) : SL M P n ds ops Q (.one b ⟨none, .store T p x, ty, pos, af, g⟩ rest) l w0 H :=
  s_store (o := 0) hp hx hA ho hv h hb hg hk
/-- A struct's cells laid into others. -/
def lay (vs : List Value) (o : Nat) (cs : List Value) : List Value := vs.take o ++ cs ++ vs.drop (o + cs.length)
theorem s_storeA {T : TypeId} {sz : Nat} [ht : AgT P T sz] {p x : Operand} {k o : Nat} {U : TypeId} {vs cs : List Value} {H' : List Ck} (hp : ev l p = some (.pointer (some ((⟨k, 0, none⟩ : Addr).add o)))) (hx : ev l x = some (.agg cs.toArray))
    (hA : At (.hb k U vs) (.hb k U (lay vs o cs)) H H') (ho : Nat.ble (o + sz) vs.length = true) (hz : cs.length = sz) (hv : cs.all Value.oneCell' = true) (h : SL M P n ds ops Q rest l w0 H')
    (hb : M.act b = true := by exact rfl) (hg : gOk ops l g = true := by exact rfl) (hk : Chk M H' := by intros; first | exact chk_seq | exact chk_held (by exact entq) | exact chk_held (by exact ent)) : SL M P n ds ops Q (.one b ⟨none, .store T p x, ty, pos, af, g⟩ rest) l w0 H := .mk fun _ hs =>
  l_storeA (Md.any hb) hg hp hx (Sat.hbOf hA hs) (by simpa using ho) hz hv fun w' h1 h2 _ => by
    subst hz
    exact ⟨hk.out (hs.hb hA h1 h2), h.out w' (hs.hb hA h1 h2)⟩
/-- A whole variable of a struct. -/
theorem s_storeW {T : TypeId} {sz : Nat} [ht : AgT P T sz] {p x : Operand} {k : Nat} {U : TypeId} {vs cs : List Value} {H' : List Ck} (hp : ev l p = some (.pointer (some ⟨k, 0, none⟩))) (hx : ev l x = some (.agg cs.toArray))
    (hA : At (.hb k U vs) (.hb k U cs) H H') (ho : vs.length = sz) (hz : cs.length = sz) (hv : cs.all Value.oneCell' = true) (h : SL M P n ds ops Q rest l w0 H')
    (hb : M.act b = true := by exact rfl) (hg : gOk ops l g = true := by exact rfl) (hk : Chk M H' := by intros; first | exact chk_seq | exact chk_held (by exact entq) | exact chk_held (by exact ent)) : SL M P n ds ops Q (.one b ⟨none, .store T p x, ty, pos, af, g⟩ rest) l w0 H := .mk fun _ hs =>
  l_storeA (o := 0) (Md.any hb) hg hp hx (Sat.hbOf hA hs) (by omega) hz hv fun w' h1 h2 _ => by
    have e : vs.take 0 ++ cs ++ vs.drop (0 + sz) = cs := by rw [List.drop_of_length_le (by omega)]; simp
    rw [e] at h1
    exact ⟨hk.out (hs.hb hA h1 h2), h.out w' (hs.hb hA h1 h2)⟩

/-! ### Slices of one's own -/
section
variable {α : Type} [Cel α]
theorem s_make0 {d : Nat} {T E : TypeId} {sz by' : Nat} [hT : SlT P T E sz by'] [ElT P E α] {x y : Operand} {kx ky : IntKind} {c : Nat} (hx : ev l x = some (.int kx 0)) (hy : ev l y = some (.int ky c)) (h1 : by' * c ≤ 281474976710656 ∧ c ≤ 140737488355328)
    (h : ∀ a, SL M P n ds ops Q rest ((d, .slice (some a) 0 c) :: l) w0 (ol E (some a) c ([] : List α) :: H))
    (hb : M.act b = true := by exact rfl) (hg : gOk ops l g = true := by exact rfl) (hd : Nat.blt d n = true := by exact rfl) (hz : sz = Cel.sz α := by exact rfl) (hk : ∀ a, Chk M (ol E (some a) c ([] : List α) :: H) := by intros; first | exact chk_seq | exact chk_held (by exact entq) | exact chk_held (by exact ent)) : SL M P n ds ops Q (.one b ⟨some d, .makeSlice T x y, ty, pos, af, g⟩ rest) l w0 H := .mk fun w hs => by
  subst hz
  exact l_make0 (Md.any hb) hg hd hx hy h1.1 (by simp only [maxLen]; omega) fun a w' ho he => ⟨(hk a).out (ho.sat hs he), (h a).out w' (ho.sat hs he)⟩
theorem made_flat {z : Value} {x : α} (hz : z.cells.toList = Cel.f x) (c : Nat) : (madeCells z.cells (c * Cel.sz α)).toList = flat (List.replicate c x) := by
  have hs : z.cells.size = Cel.sz α := by rw [← Array.length_toList, hz, Cel.len]
  have hp := Cel.pos (α := α)
  apply List.ext_getElem?
  intro j
  by_cases hj : j < c * Cel.sz α
  · have h1 : j / Cel.sz α < c := (Nat.div_lt_iff_lt_mul hp).2 hj
    have h2 : j % Cel.sz α < Cel.sz α := Nat.mod_lt _ hp
    have h3 : (Cel.f x)[j % Cel.sz α]? = some ((Cel.f x)[j % Cel.sz α]'(by rw [Cel.len]; exact h2)) := List.getElem?_eq_getElem _
    have h4 := flat_at (List.replicate c x) (j / Cel.sz α) x (j % Cel.sz α) _ (by simp [h1]) h3
    rw [Nat.div_add_mod' j (Cel.sz α)] at h4
    rw [h4]
    have h5 : j % Cel.sz α < z.cells.size := by omega
    simp [madeCells, hj, hs]
    rw [getElem!_pos z.cells _ h5]
    simp only [← hz, Array.getElem_toList]
  · rw [List.getElem?_eq_none (by simp [madeCells]; omega), List.getElem?_eq_none (by rw [flat_length]; simp; omega)]
/-- What a new element holds. -/
class ZxT (P : Program) (E : TypeId) (α : Type) [Cel α] (x : outParam α) : Prop where
  run : ∃ z, (∀ w, (zeroValue E).run P w = .ok z w) ∧ z.cells.toList = Cel.f x
theorem s_make {d : Nat} {T E : TypeId} {sz by' : Nat} [hT : SlT P T E sz by'] [ElT P E α] {x0 : α} [hx0 : ZxT P E α x0] {x y : Operand} {kx ky : IntKind} {c : Nat} (hx : ev l x = some (.int kx c)) (hy : ev l y = some (.int ky c)) (h1 : by' * c ≤ 281474976710656 ∧ c ≤ 140737488355328)
    (h : ∀ a, SL M P n ds ops Q rest ((d, .slice (some a) c c) :: l) w0 (ol E (some a) c (List.replicate c x0) :: H))
    (hb : M.act b = true := by exact rfl) (hg : gOk ops l g = true := by exact rfl) (hd : Nat.blt d n = true := by exact rfl) (hz : sz = Cel.sz α := by exact rfl) (hk : ∀ a, Chk M (ol E (some a) c (List.replicate c x0) :: H) := by intros; first | exact chk_seq | exact chk_held (by exact entq) | exact chk_held (by exact ent)) : SL M P n ds ops Q (.one b ⟨some d, .makeSlice T x y, ty, pos, af, g⟩ rest) l w0 H := .mk fun w hs => by
  subst hz
  obtain ⟨z, z1, z2⟩ := hx0.run
  haveI : ZeT P E z := ⟨z1⟩
  refine l_make (Md.any hb) hg hd hx hy h1.1 (by simp only [maxLen]; omega) fun a w' ho he => ?_
  rw [made_flat z2] at ho
  have ho : Own w' w.heap.size E (Cel.sz α) (some a) (List.replicate c x0).length c (flat (List.replicate c x0)) := by rw [List.length_replicate]; exact ho
  exact ⟨(hk a).out (ho.sat hs he), (h a).out w' (ho.sat hs he)⟩
/-- []T{v0, v1, ..}. -/
theorem s_bsl {d : Nat} {T E : TypeId} {sz by' m : Nat} [hT : SlT P T E sz by'] {ps : List (Nat × Operand)} {vals : List Value} (ys : List α) (hp : evp l 0 ps = some vals) (hy : (vals.flatMap fun v => v.cells.toList) = flat ys)
    (h : ∀ k, SL M P n ds ops Q rest ((d, .slice (some ⟨k, 0, none⟩) m m) :: l) w0 (ol E (some ⟨k, 0, none⟩) m ys :: H))
    (hm : vals.length = m := by exact rfl) (hs' : (vals.all fun v => Nat.beq v.cells.size sz) = true := by exact rfl) (hle : Nat.ble (m * sz) 16777216 = true := by exact rfl)
    (hb : M.act b = true := by exact rfl) (hg : gOk ops l g = true := by exact rfl) (hd : Nat.blt d n = true := by exact rfl) (hz : sz = Cel.sz α := by exact rfl) (hk : ∀ k, Chk M (ol E (some ⟨k, 0, none⟩) m ys :: H) := by intros; first | exact chk_seq | exact chk_held (by exact entq) | exact chk_held (by exact ent)) :
    SL M P n ds ops Q (.one b ⟨some d, .buildSlice T m ps.toArray, ty, pos, af, g⟩ rest) l w0 H := .mk fun w hs => by
  subst hz
  refine l_bsl (Md.any hb) hg hd hp hm hs' hle fun k w' hN => ?_
  rw [hy] at hN
  have hlen : (flat ys).length = m * Cel.sz α := by
    rw [← hy, ← hm]
    clear hp hm hN h hk hy
    induction vals with
    | nil => simp
    | cons v vals ih =>
      simp only [List.all_cons, Bool.and_eq_true] at hs'
      have hv := Nat.eq_of_beq_eq_true hs'.1
      simp only [List.flatMap_cons, List.length_append, List.length_cons, Array.length_toList, ih hs'.2, Nat.add_mul, Nat.one_mul]
      omega
  have hym : m = ys.length := by
    rw [flat_length] at hlen
    exact (Nat.mul_right_cancel (Cel.pos (α := α)) hlen).symm
  have hmm : m ≤ maxLen := by
    have h1 := Nat.le_of_ble_eq_true hle
    have h2 := Nat.le_mul_of_pos_right m (Cel.pos (α := α))
    simp only [maxLen]; omega
  have ho : Own w' w.heap.size E (Cel.sz α) (some ⟨k, 0, none⟩) ys.length m (flat ys) := Own.mk (rest := []) (by have := hN.at_; omega) (by rw [List.append_nil]; exact hN.hb) (flat_length ys) (by omega) hmm (by rw [hlen]; simp)
  exact ⟨(hk k).out (ho.sat hs hN.ex), (h k).out w' (ho.sat hs hN.ex)⟩

theorem Sl.src {w : World} {a : Option Addr} {c : Nat} {xs : List α} (h : Sl w a c xs) : Src w a (flat xs) :=
  ⟨fun e => by have := h.nil e; have := h.le; rw [List.eq_nil_of_length_eq_zero (by omega : xs.length = 0)]; rfl, fun ad e => h.cells ad e⟩
/-- append(s, x...): to a slice of one's own. -/
theorem s_app {d : Nat} {T E : TypeId} {sz by' : Nat} [hT : SlT P T E sz by'] {s x : Operand} {a a2 : Option Addr} {c c2 : Nat} {k m : Nat} {xs ys : List α} {H' : Option Addr → Nat → List Ck} (h : ∀ a' c', SL M P n ds ops Q rest ((d, .slice a' (xs ++ ys).length c') :: l) w0 (H' a' c'))
    (hs : ev l s = some (.slice a k c) := by exact rfl) (hx : ev l x = some (.slice a2 m c2) := by exact rfl)
    (hsrc : RSl w0 H a2 c2 ys := by exact rsl) (hm : m = ys.length := by first | exact rfl | omega | simp) (hA : ∀ a' c', At (ol E a c xs) (ol E a' c' (xs ++ ys)) H (H' a' c') := by intro _ _; exact at_) (hk0 : k = xs.length := by first | exact rfl | omega | simp) (hby : (xs.length + ys.length) * by' ≤ 140737488355328 := by first | omega | (simp only [List.length_append, List.length_cons, List.length_nil, List.length_map, List.length_take, List.length_drop, List.length_replicate]; omega))
    (hb : M.act b = true := by exact rfl) (hg : gOk ops l g = true := by exact rfl) (hd : Nat.blt d n = true := by exact rfl) (hz : sz = Cel.sz α := by exact rfl) (hy1 : Nat.ble 1 by' = true := by exact rfl) (hk : ∀ a' c', Chk M (H' a' c') := by intros; first | exact chk_seq | exact chk_held (by exact entq) | exact chk_held (by exact ent)) :
    SL M P n ds ops Q (.one b ⟨some d, .call { callee := .builtin .append, args := #[s, x], argTypes := #[T, T] }, ty, pos, af, g⟩ rest) l w0 H := .mk fun w hw => by
  subst hz
  subst hm
  subst hk0
  have h1 := Nat.le_of_ble_eq_true hy1
  have h2 := Nat.le_mul_of_pos_right (xs.length + ys.length) h1
  have hS := hsrc w hw
  refine l_app (Cel.pos (α := α)) (Md.any hb) hg hd hs hx (Sat.ownOf (hA none 0) hw) hS.src hS.nil (flat_length ys) (flat_oneC ys) hby (by simp only [maxLen]; omega) hw.size fun a' c' w' ho he hf => ?_
  have e : flat xs ++ flat ys = flat (xs ++ ys) := by simp [flat]
  rw [e, ← List.length_append] at ho
  rw [← List.length_append]
  have hw' := hw.own (hA a' c') ho he hf
  exact ⟨(hk a' c').out hw', (h a' c').out w' hw'⟩
/-- A store of a whole element, or of an element of one cell. -/
theorem set_core {w w' : World} {E k c i : Nat} {xs : List α} {y : α} {re : List Value} (h2 : w0.heap.size ≤ k) (_h3 : HB w k E (flat xs ++ re)) (h4 : xs.length ≤ c) (h5 : c ≤ maxLen) (h6 : c * Cel.sz α ≤ (flat xs).length + re.length) (hi : i < xs.length)
    (g1 : HB w' k E ((flat xs ++ re).take (i * Cel.sz α) ++ Cel.f y ++ (flat xs ++ re).drop (i * Cel.sz α + Cel.sz α))) : Own w' w0.heap.size E (Cel.sz α) (some ⟨k, 0, none⟩) (xs.set i y).length c (flat (xs.set i y)) := by
  have hlt : i * Cel.sz α + Cel.sz α ≤ (flat xs).length := by
    rw [flat_length, ← Nat.succ_mul]
    exact Nat.mul_le_mul_right _ hi
  have e : (flat xs ++ re).take (i * Cel.sz α) ++ Cel.f y ++ (flat xs ++ re).drop (i * Cel.sz α + Cel.sz α) = flat (xs.set i y) ++ re := by
    rw [flat_set xs i y hi, List.take_append_of_le_length (by omega), List.drop_append_of_le_length (by omega)]
    simp [List.append_assoc]
  rw [e] at g1
  exact Own.mk' h2 g1 (flat_length _) (by rw [List.length_set]; exact h4) h5 (by rw [flat_length, List.length_set, ← flat_length]; exact h6)
theorem s_setA {T : TypeId} {sz : Nat} [ht : AgT P T sz] {E : TypeId} {p x : Operand} {ad : Addr} {i c : Nat} {xs : List α} (y : α) {cs : List Value} {H' : List Ck} (hp : ev l p = some (.pointer (some (ad.add (i * sz))))) (hx : ev l x = some (.agg cs.toArray))
    (hA : At (ol E (some ad) c xs) (ol E (some ad) c (xs.set i y)) H H') (hc : cs = Cel.f y) (hi : i < xs.length) (h : SL M P n ds ops Q rest l w0 H')
    (hb : M.act b = true := by exact rfl) (hg : gOk ops l g = true := by exact rfl) (hz : sz = Cel.sz α := by exact rfl) (hk : Chk M H' := by intros; first | exact chk_seq | exact chk_held (by exact entq) | exact chk_held (by exact ent)) : SL M P n ds ops Q (.one b ⟨none, .store T p x, ty, pos, af, g⟩ rest) l w0 H := .mk fun w hw => by
  subst hz
  subst hc
  have ho := Sat.ownOf hA hw
  rcases ho.open with ⟨h0, _⟩ | ⟨k, re, h1, h2, h3, h4, h5, h6⟩
  · cases h0
  · simp only [Option.some.injEq] at h1
    subst h1
    have hlt : i * Cel.sz α + Cel.sz α ≤ (flat xs).length := by
      rw [flat_length, ← Nat.succ_mul]
      exact Nat.mul_le_mul_right _ hi
    refine l_storeA (Md.any hb) hg hp hx h3 (by rw [List.length_append]; omega) (Cel.len y) (Cel.one y) fun w' g1 g2 g3 => ?_
    have hw' := hw.own hA (set_core h2 h3 h4 h5 h6 hi g1) (g2.mono fun i _ e => by rw [e]; rfl) (fun ad' e => by cases e; exact .inl rfl)
    exact ⟨hk.out hw', h.out w' hw'⟩
theorem s_set1 {T : TypeId} [ht : ScT P T] {E : TypeId} {p x : Operand} {ad : Addr} {i c : Nat} {xs : List α} {y : α} {v : Value} {H' : List Ck} (hp : ev l p = some (.pointer (some (ad.add (i * 1))))) (hx : ev l x = some v)
    (hA : At (ol E (some ad) c xs) (ol E (some ad) c (xs.set i y)) H H') (hc : [v] = Cel.f y) (hi : i < xs.length) (h : SL M P n ds ops Q rest l w0 H')
    (hb : M.act b = true := by exact rfl) (hg : gOk ops l g = true := by exact rfl) (hz : Cel.sz α = 1 := by exact rfl) (hk : Chk M H' := by intros; first | exact chk_seq | exact chk_held (by exact entq) | exact chk_held (by exact ent)) : SL M P n ds ops Q (.one b ⟨none, .store T p x, ty, pos, af, g⟩ rest) l w0 H := .mk fun w hw => by
  have ho := Sat.ownOf hA hw
  rcases ho.open with ⟨h0, _⟩ | ⟨k, re, h1, h2, h3, h4, h5, h6⟩
  · cases h0
  · simp only [Option.some.injEq] at h1
    subst h1
    have hlt : i * Cel.sz α + Cel.sz α ≤ (flat xs).length := by
      rw [flat_length, ← Nat.succ_mul]
      exact Nat.mul_le_mul_right _ hi
    have hv : v.oneCell' = true := List.all_eq_true.1 (Cel.one y) v (by rw [← hc]; simp)
    refine l_store (Md.any hb) hg hp hx h3 (by rw [List.length_append]; rw [hz] at hlt; omega) hv fun w' g1 g2 g3 => ?_
    have e : (flat xs ++ re).set (i * 1) v = (flat xs ++ re).take (i * Cel.sz α) ++ Cel.f y ++ (flat xs ++ re).drop (i * Cel.sz α + Cel.sz α) := by
      rw [List.set_eq_take_append_cons_drop, if_pos (by rw [List.length_append]; rw [hz] at hlt; omega), ← hc, hz]
      simp [List.append_assoc]
    rw [e] at g1
    have hw' := hw.own hA (set_core h2 h3 h4 h5 h6 hi g1) (g2.mono fun i _ e => by rw [e]; rfl) (fun ad' e => by cases e; exact .inl rfl)
    exact ⟨hk.out hw', h.out w' hw'⟩
/-- Where a slice of one's own lies that is not empty. -/
theorem own_gA {w : World} {B E c : Nat} {a : Option Addr} {xs : List α} (ho : Own w B E (Cel.sz α) a xs.length c (flat xs)) (hi : 0 < xs.length) : ∃ ad, a = some ad := by
  rcases ho.open with ⟨_, h0, _⟩ | ⟨k, re, h1, _⟩
  · omega
  · exact ⟨_, h1⟩
end

/-! ### Calls -/
theorem s_call {d : Nat} {k : FuncId} {xs : List Operand} {ts : Array TypeId} {args : List Value} {R : Value → List Ck → Prop} [hf' : FnT P k] (ha : evs l xs = some args) (hf : FnS P w0 H k args.toArray R)
    (h : ∀ v H', R v H' → Chk M H' ∧ SL M P n ds ops Q rest ((d, v) :: l) w0 H') (hb : M.act b = true := by exact rfl) (hg : gOk ops l g = true := by exact rfl) (hd : Nat.blt d n = true := by exact rfl) :
    SL M P n ds ops Q (.one b ⟨some d, .call { callee := .value (.func k), args := xs.toArray, argTypes := ts }, ty, pos, af, g⟩ rest) l w0 H := .mk fun w hs =>
  l_call (Md.any hb) hg hd ha (hf w hs) fun v w' ⟨H', h1, h2⟩ => ⟨(h v H' h1).1.out h2, (h v H' h1).2.out w' h2⟩
/-- A call that gives a value and turns nothing. -/
theorem s_callV {d : Nat} {k : FuncId} {xs : List Operand} {ts : Array TypeId} {args : List Value} {v : Value} [hf' : FnT P k] (ha : evs l xs = some args) (hf : FnV P w0 H k args.toArray v)
    (h : SL M P n ds ops Q rest ((d, v) :: l) w0 H) (hb : M.act b = true := by exact rfl) (hg : gOk ops l g = true := by exact rfl) (hd : Nat.blt d n = true := by exact rfl) (hk : Chk M H := by intros; first | exact chk_seq | exact chk_held (by exact entq) | exact chk_held (by exact ent)) :
    SL M P n ds ops Q (.one b ⟨some d, .call { callee := .value (.func k), args := xs.toArray, argTypes := ts }, ty, pos, af, g⟩ rest) l w0 H :=
  s_call ha hf (fun _ _ ⟨h1, h2⟩ => by subst h1; subst h2; exact ⟨hk, h⟩) hb hg hd
/-- A call of a function value. -/
theorem s_callF {d : Nat} {k : FuncId} {x : Operand} {xs : List Operand} {ts : Array TypeId} {cap args : List Value} {R : Value → List Ck → Prop} [hf' : FnT P k] (hc : ev l x = some (.func (.func k) #[] cap.toArray)) (ha : evs l xs = some args) (hf : FnS P w0 H k (args ++ cap).toArray R)
    (h : ∀ v H', R v H' → Chk M H' ∧ SL M P n ds ops Q rest ((d, v) :: l) w0 H') (hb : M.act b = true := by exact rfl) (hg : gOk ops l g = true := by exact rfl) (hd : Nat.blt d n = true := by exact rfl) :
    SL M P n ds ops Q (.one b ⟨some d, .call { callee := .value x, args := xs.toArray, argTypes := ts }, ty, pos, af, g⟩ rest) l w0 H := .mk fun w hs => .mk fun a hfr => by
  unfold WL
  rw [if_pos (gOk_spec hg hfr)]
  refine .inr ⟨by simpa using Md.any hb, ?_⟩
  have hargs := evs_map hfr.agr ha
  have : (execOp a.eval ⟨some d, .call { callee := .value x, args := xs.toArray, argTypes := ts }, ty, pos, af, g⟩).run P w = .ok (.enter k (args ++ cap).toArray) w := by
    simp [execOp, resolve, hfr.agr _ _ hc, Deferred.ofValue, invoke, hargs, hf'.run]
  refine op_enter this (hf w hs) ?_
  rintro e w' ⟨v, rfl, H', h1, h2⟩
  exact ⟨(h v H' h1).1.out h2, ((h v H' h1).2.out w' h2).out _ (hfr.put v hd)⟩
theorem s_callFV {d : Nat} {k : FuncId} {x : Operand} {xs : List Operand} {ts : Array TypeId} {cap args : List Value} {v : Value} [hf' : FnT P k] (hc : ev l x = some (.func (.func k) #[] cap.toArray)) (ha : evs l xs = some args) (hf : FnV P w0 H k (args ++ cap).toArray v)
    (h : SL M P n ds ops Q rest ((d, v) :: l) w0 H) (hb : M.act b = true := by exact rfl) (hg : gOk ops l g = true := by exact rfl) (hd : Nat.blt d n = true := by exact rfl) (hk : Chk M H := by intros; first | exact chk_seq | exact chk_held (by exact entq) | exact chk_held (by exact ent)) :
    SL M P n ds ops Q (.one b ⟨some d, .call { callee := .value x, args := xs.toArray, argTypes := ts }, ty, pos, af, g⟩ rest) l w0 H :=
  s_callF hc ha hf (fun _ _ ⟨h1, h2⟩ => by subst h1; subst h2; exact ⟨hk, h⟩) hb hg hd
/-- []byte("..") of a constant: the mark behind its bytes. -/
theorem s_convb {d : Nat} {x : Operand} {T E : TypeId} {sz by' k m c U : Nat} {vs : List Value} {H' : List Ck} [hT : SlT P T E sz by'] [hE : InT P E .u8] (hx : ev l x = some (.slice (some ⟨k, 0, none⟩) m c)) (hA : At (.own U 1 (some ⟨k, 0, none⟩) m c vs) (Ck.ro k vs) H H')
    (h : SL M P n ds ops Q rest ((d, .slice (some ⟨k, 0, none⟩) m c) :: l) w0 H') (_hmc : m = c := by exact rfl) (hb : M.act b = true := by exact rfl) (hg : gOk ops l g = true := by exact rfl) (hd : Nat.blt d n = true := by exact rfl) (hk : Chk M H' := by intros; first | exact chk_seq | exact chk_held (by exact entq) | exact chk_held (by exact ent)) :
    SL M P n ds ops Q (.one b ⟨some d, .convert T T x, ty, pos, af, g⟩ rest) l w0 H := .mk fun w hw => by
  have ho := Sat.ownOf hA hw
  rcases ho.open with ⟨h0, _⟩ | ⟨j, re, h1, h2, h3, h4, h5, h6⟩
  · cases h0
  · simp only [Option.some.injEq, Addr.mk.injEq, and_true] at h1
    subst h1
    refine l_convb (Md.any hb) hg hd hx h3 fun w' g1 g2 g3 => ?_
    have hw' : Sat w0 H' w' := hw.updAt hA fun S hS ⟨_, hc⟩ => ⟨g1.mono fun i _ e => by subst e; exact hc _ rfl, fun i => i = k, ⟨fun i v hi => g2 i v (by rw [List.getElem?_append_left (List.getElem?_eq_some_iff.1 hi).1]; exact hi), rfl⟩, fun i e => by subst e; exact ⟨.inl (hc _ rfl), by have := (hS _ (hc _ rfl)).2; simp only at this; omega⟩⟩
    exact ⟨hk.out hw', h.out w' hw'⟩
end
end Go.Sx
namespace Go.Sx
open Go
section
variable {P : Program} {S : World → Prop} {l : List (Nat × Value)} {d : Option Tmp} {ty : TypeId} {pos : String} {af : Array Edge} {g : Option (Nat × Bool)}
theorem y_neg {x : Operand} {T : TypeId} {a : Int} (hx : ev l x = some (.int .i64 a)) (h : -9223372036854775807 ≤ a ∧ a ≤ 9223372036854775807) :
    Y P S ⟨d, .unOp .neg T x, ty, pos, af, g⟩ l (.int .i64 (-a)) := .mk fun w _ ρ hρ => by
  have := IntWalk.i64_in (-a) (by omega)
  simp [execOp, hρ _ _ hx, Op.unary, Op.intArith, this]
/-- x % y of what is not below 0. -/
theorem y_rem {x y : Operand} {T U : TypeId} {a c : Int} (hx : ev l x = some (.int .i64 a)) (hy : ev l y = some (.int .i64 c)) (h : 0 ≤ a ∧ 1 ≤ c) :
    Y P S ⟨d, .binOp .rem T x y U, ty, pos, af, g⟩ l (.int .i64 (a % c)) := .mk fun w _ ρ hρ => by
  have hne : c ≠ 0 := by omega
  have : a.tmod c = a % c := Int.tmod_eq_emod_of_nonneg h.1
  simp [execOp, hρ _ _ hx, hρ _ _ hy, eqGuard, binOp, Op.intDiv, hne, this]
end
end Go.Sx
namespace Go.Sx
open Go
/-- What is to be shown still; no look at what is known may take it for something else. -/
structure Hd (J : Prop) : Prop where
  out : J
theorem sxo {J J' : Prop} (h' : J') (h : Hd J' → J := by
  intro kk
  (repeat (first | (refine l_y rfl rfl (by first | ((with_reducible (first | apply y_move | apply y_assign | apply y_lensl | apply y_field | apply y_nilc | apply y_not | apply y_pick | apply y_min | apply y_cap | apply y_eqnil | apply y_nenil | apply y_shr8 | apply y_shr16 | apply y_shr24 | apply y_shr1)) <;> rfl) | ((with_reducible apply y_index0); rfl; rfl; omega) | ((with_reducible apply y_index1); rfl; rfl; omega) | ((with_reducible apply y_index2); rfl; rfl; omega) | ((with_reducible apply y_index3); rfl; rfl; omega) | ((with_reducible (first | apply y_add | apply y_sub | apply y_mul | apply y_index | apply y_slF | apply y_slT)); rfl; rfl; omega) | ((with_reducible apply y_quo); rfl; omega) | ((with_reducible apply y_slB); rfl; rfl; rfl; omega) | ((with_reducible apply y_load); rfl; first | (intro wh hw; rw [show wh = _ from hw]; first | assumption | exact HB.cell (by assumption) _ rfl | exact HB.cell0 (by assumption) rfl | exact By.cell (by assumption) (by omega) | exact En.key (by assumption) (by assumption) | exact En.val (by assumption) (by assumption) | exact Bbs.val (by assumption) (by assumption)) | (intro _ hx; refine Ext.cell hx (by first | assumption | exact HB.cell (by assumption) _ rfl | exact HB.cell0 (by assumption) rfl | exact By.cell (by assumption) (by omega) | exact En.key (by assumption) (by assumption) | exact En.val (by assumption) (by assumption) | exact Bbs.val (by assumption) (by assumption)) ?_; first | exact id | exact hng)) | ((with_reducible apply y_loadA); rfl; (first | (intro wh hw; rw [show wh = _ from hw]; first | exact HB.cells (by assumption) | exact En.both (by assumption) (by assumption)) | (intro _ hx; refine Cells.ext (by first | exact HB.cells (by assumption) | exact En.both (by assumption) (by assumption)) hx ?_; first | exact fun _ => id | exact fun _ => hng)); rfl) | ((with_reducible apply y_str); rfl; (first | (intro wh hw; rw [show wh = _ from hw]; assumption) | (intro _ hx; refine By.ext (by assumption) hx ?_; exact fun _ _ _ => id))) | ((with_reducible (first | apply y_eqb | apply y_neb | apply y_gtb | apply y_ltb)) <;> rfl) | ((with_reducible (first | apply y_seq | apply y_sne | apply y_slt | apply y_sle | apply y_sgt | apply y_sge | apply y_b2i | apply y_ext)) <;> rfl) | ((with_reducible apply y_shl8); rfl; omega) | ((with_reducible apply y_or8); rfl; rfl; omega; omega) | ((with_reducible (first | apply y_neg)); rfl; omega) | ((with_reducible apply y_rem); rfl; rfl; omega) | ((with_reducible apply y_conv) <;> rfl) | ((with_reducible (first | apply y_lss | apply y_leq | apply y_gtr | apply y_geq | apply y_eql | apply y_neq)) <;> rfl) | fail) ?_) | with_reducible (first | apply c_seq | apply c_reg | apply l_nil | apply q_next | apply c_block | apply c_exit | apply c_ret | apply c_skip | apply q_then_exit | apply q_then_ret | apply q_blk_hit | apply q_blk_ret | apply q_blk_normal | apply q_nopan_normal | apply q_panto_normal) | ((with_reducible apply q_blk_miss); rfl) | refine c_condT rfl ?_ | refine c_condF rfl ?_ | refine l_sk rfl rfl ?_))
  exact kk.out) : J := h ⟨h'⟩
end Go.Sx
namespace Go.Sx
open Go
section
variable {P : Program} {S : World → Prop} {l : List (Nat × Value)} {d : Option Tmp} {ty : TypeId} {pos : String} {af : Array Edge} {g : Option (Nat × Bool)}
theorem y_max {x y : Operand} {T U : TypeId} {a b : Int} (hx : ev l x = some (.int .i64 a)) (hy : ev l y = some (.int .i64 b)) :
    Y P S ⟨d, .call { callee := .builtin .max, args := #[x, y], argTypes := #[T, U] }, ty, pos, af, g⟩ l (.int .i64 (max a b)) := .mk fun w _ ρ hρ => by
  have : (if a < b then b else a) = max a b := by split <;> omega
  simp only [execOp, resolve, invoke, builtin, List.map_toArray, List.map_cons, List.map_nil, hρ _ _ hx, hρ _ _ hy, Builtin.max_, ← this]
  rfl
/-- A pointer and nil. -/
theorem y_eqpn {x : Operand} {T U : TypeId} [h : PtT P T] {a : Option Addr} (hx : ev l x = some (.pointer a)) : Y P S ⟨d, .binOp .eql T x (.const (.pointer none)) U, ty, pos, af, g⟩ l (.bool a.isNone) := .mk fun w _ ρ hρ => by
  have h2 := hρ (.const (.pointer none)) _ rfl
  have h3 := run_eql_pointer_nil (P := P) w T a h.und
  simp [execOp, hρ _ _ hx, h2, eqGuard_at_pointer, h3]
theorem y_nepn {x : Operand} {T U : TypeId} [h : PtT P T] {a : Option Addr} (hx : ev l x = some (.pointer a)) : Y P S ⟨d, .binOp .neq T x (.const (.pointer none)) U, ty, pos, af, g⟩ l (.bool (!a.isNone)) := .mk fun w _ ρ hρ => by
  have h2 := hρ (.const (.pointer none)) _ rfl
  have h3 := run_neq_pointer_nil (P := P) w T a h.und
  simp [execOp, hρ _ _ hx, h2, eqGuard_at_pointer, h3]
/-- A function and nil. -/
theorem y_eqfn0 {x : Operand} {T U : TypeId} [h : FuT P T] (hx : ev l x = some .nilFunc) : Y P S ⟨d, .binOp .eql T x (.const .nilFunc) U, ty, pos, af, g⟩ l (.bool true) := .mk fun w _ ρ hρ => by
  have h2 := hρ (.const .nilFunc) _ rfl
  simp [execOp, hρ _ _ hx, h2, eqGuard, h.eqn]
theorem y_eqfn {x : Operand} {T U : TypeId} [h : FuT P T] {f : Go.Fn} {a c : Array Value} (hx : ev l x = some (.func f a c)) : Y P S ⟨d, .binOp .eql T x (.const .nilFunc) U, ty, pos, af, g⟩ l (.bool false) := .mk fun w _ ρ hρ => by
  have h2 := hρ (.const .nilFunc) _ rfl
  simp [execOp, hρ _ _ hx, h2, eqGuard_at_func, h.eqf]
theorem bv_ofInt (a : Int) : bv (UInt8.ofInt a) = .int .u8 (IntKind.u8.wrap a) := by
  have h : (UInt8.ofInt a).toNat = (a % 256).toNat := by simp [UInt8.ofInt]; omega
  simp only [bv, h, IntKind.wrap, IntKind.bits, IntKind.signed]
  simp
  omega
theorem y_i2b {x : Operand} {T U : TypeId} {k' : IntKind} {a : Int} [hT : InT P T k'] [hU : InT P U .u8] (hx : ev l x = some (.int k' a)) :
    Y P S ⟨d, .convert T U x, ty, pos, af, g⟩ l (bv (UInt8.ofInt a)) := by
  have := y_conv (P := P) (S := S) (d := d) (ty := ty) (pos := pos) (af := af) (g := g) (T := T) (U := U) (k := .u8) hx
  rwa [← bv_ofInt] at this
/-- A conversion that changes no number. -/
theorem y_cv {x : Operand} {T U : TypeId} {k' : IntKind} {a : Int} [hT : InT P T k'] [hU : InT P U .i64] (hx : ev l x = some (.int k' a)) (h : -9223372036854775808 ≤ a ∧ a ≤ 9223372036854775807) :
    Y P S ⟨d, .convert T U x, ty, pos, af, g⟩ l (.int .i64 a) := by
  have := y_conv (P := P) (S := S) (d := d) (ty := ty) (pos := pos) (af := af) (g := g) (T := T) (U := U) (k := .i64) hx
  rwa [IntWalk.i64_in a h] at this
theorem y_cvu {x : Operand} {T U : TypeId} {k' : IntKind} {a : Int} [hT : InT P T k'] [hU : InT P U .u64] (hx : ev l x = some (.int k' a)) (h : 0 ≤ a ∧ a ≤ 18446744073709551615) :
    Y P S ⟨d, .convert T U x, ty, pos, af, g⟩ l (.int .u64 a) := by
  have := y_conv (P := P) (S := S) (d := d) (ty := ty) (pos := pos) (af := af) (g := g) (T := T) (U := U) (k := .u64) hx
  have e : IntKind.u64.wrap a = a := by simp [IntKind.wrap, IntKind.bits, IntKind.signed]; omega
  rwa [e] at this
theorem y_pickT {c x y : Operand} {u v : Value} (hc : ev l c = some (.bool true)) (hx : ev l x = some u) (hy : ev l y = some v) : Y P S ⟨d, .pick c x y, ty, pos, af, g⟩ l u := y_pick (t := true) hc hx hy
theorem y_pickF {c x y : Operand} {u v : Value} (hc : ev l c = some (.bool false)) (hx : ev l x = some u) (hy : ev l y = some v) : Y P S ⟨d, .pick c x y, ty, pos, af, g⟩ l v := y_pick (t := false) hc hx hy
/-- Of the same number twice. -/
theorem y_eqls {x y : Operand} {T U : TypeId} {k : IntKind} {a b : Int} (hx : ev l x = some (.int k a)) (hy : ev l y = some (.int k b)) (he : a = b) : Y P S ⟨d, .binOp .eql T x y U, ty, pos, af, g⟩ l (.bool true) := by
  subst he
  have := y_eql (P := P) (S := S) (l := l) (d := d) (ty := ty) (pos := pos) (af := af) (g := g) (T := T) (U := U) hx hy
  rwa [decide_eq_true (rfl : a = a)] at this
theorem y_nels {x y : Operand} {T U : TypeId} {k : IntKind} {a b : Int} (hx : ev l x = some (.int k a)) (hy : ev l y = some (.int k b)) (he : a = b) : Y P S ⟨d, .binOp .neq T x y U, ty, pos, af, g⟩ l (.bool false) := by
  subst he
  have := y_neq (P := P) (S := S) (l := l) (d := d) (ty := ty) (pos := pos) (af := af) (g := g) (T := T) (U := U) hx hy
  rwa [decide_eq_true (rfl : a = a)] at this
theorem y_seqs {x y : Operand} {T U : TypeId} {a b : Bs} (hx : ev l x = some (str a)) (hy : ev l y = some (str b)) (he : a = b) : Y P S ⟨d, .binOp .eql T x y U, ty, pos, af, g⟩ l (.bool true) := by
  subst he
  have := y_seq (P := P) (S := S) (l := l) (d := d) (ty := ty) (pos := pos) (af := af) (g := g) (T := T) (U := U) hx hy
  rwa [decide_eq_true (rfl : a = a)] at this
theorem y_snes {x y : Operand} {T U : TypeId} {a b : Bs} (hx : ev l x = some (str a)) (hy : ev l y = some (str b)) (he : a = b) : Y P S ⟨d, .binOp .neq T x y U, ty, pos, af, g⟩ l (.bool false) := by
  subst he
  have := y_sne (P := P) (S := S) (l := l) (d := d) (ty := ty) (pos := pos) (af := af) (g := g) (T := T) (U := U) hx hy
  rwa [decide_eq_true (rfl : a = a)] at this
theorem y_sadd {x y : Operand} {T U : TypeId} {xs ys : Bs} (hx : ev l x = some (str xs)) (hy : ev l y = some (str ys)) (h : xs.length + ys.length ≤ 9223372036854775807) :
    Y P S ⟨d, .binOp .add T x y U, ty, pos, af, g⟩ l (str (xs ++ ys)) := .mk fun w _ ρ hρ => by
  have e : (⟨xs.toArray⟩ : ByteArray) ++ ⟨ys.toArray⟩ = ⟨(xs ++ ys).toArray⟩ := by
    apply ByteArray.ext
    simp
  simp only [execOp, hρ _ _ hx, hρ _ _ hy, str, binOp, Op.stringOp]
  simp [eqGuard, e, ByteArray.size]
  omega
theorem y_beq {x y : Operand} {T U : TypeId} [hT : BoT P T] {a b : Bool} (hx : ev l x = some (.bool a)) (hy : ev l y = some (.bool b)) :
    Y P S ⟨d, .binOp .eql T x y U, ty, pos, af, g⟩ l (.bool (a == b)) := .mk fun w _ ρ hρ => by
  have := run_equal_bool (P := P) (w := w) T a b hT.und
  simp [execOp, hρ _ _ hx, hρ _ _ hy, eqGuard, binOp, this]
theorem y_bne {x y : Operand} {T U : TypeId} [hT : BoT P T] {a b : Bool} (hx : ev l x = some (.bool a)) (hy : ev l y = some (.bool b)) :
    Y P S ⟨d, .binOp .neq T x y U, ty, pos, af, g⟩ l (.bool (a != b)) := .mk fun w _ ρ hρ => by
  have := run_equal_bool (P := P) (w := w) T a b hT.und
  simp [execOp, hρ _ _ hx, hρ _ _ hy, eqGuard, binOp, this]
  cases a <;> cases b <;> rfl
end
section
variable {w0 : World} {H : List Ck} {α : Type} [Cel α] {ad : Addr} {c : Nat}
omit [Cel α] in
theorem Rc.sl' {_i : Cel α} {sz : Nat} {xs : List α} (h : RSl w0 H (some ad) c xs) {i : Nat} {x : α} (hx : xs[i]? = some x) {v : Value} (hz : sz = Cel.sz α) (hv : (Cel.f x)[0]? = some v) : Rc w0 H (ad.add (i * sz)) v := by subst hz; exact Rc.sl h hx hv
omit [Cel α] in
theorem Rc.slo' {_i : Cel α} {sz : Nat} {xs : List α} (h : RSl w0 H (some ad) c xs) {i o : Nat} {x : α} (hx : xs[i]? = some x) {v : Value} (hz : sz = Cel.sz α) (hv : (Cel.f x)[o]? = some v) : Rc w0 H ((ad.add (i * sz)).add o) v := by subst hz; exact Rc.slo h hx hv
omit [Cel α] in
theorem RcA.sl' {_i : Cel α} {sz : Nat} {xs : List α} (h : RSl w0 H (some ad) c xs) {i : Nat} {x : α} (hx : xs[i]? = some x) (hz : sz = Cel.sz α) : RcA w0 H (ad.add (i * sz)) (Cel.f x) := by subst hz; exact RcA.sl h hx
end
/-- A variable's block among the pieces. -/
def RcH (w0 : World) (H : List Ck) (b : Nat) (vs : List Value) : Prop := RcA w0 H ⟨b, 0, none⟩ vs
section
variable {w0 : World} {H : List Ck} {b o : Nat} {vs : List Value} {v : Value}
theorem RcH.hd {T : TypeId} : RcH w0 (.hb b T vs :: H) b vs := RcA.hb
theorem RcH.tl {d : Ck} (h : RcH w0 H b vs) : RcH w0 (d :: H) b vs := RcA.tl h
theorem Rc.hbS0 (h : RcH w0 H b vs) (hv : vs[0]? = some v) : Rc w0 H ⟨b, 0, none⟩ v := fun w hs => h w hs 0 v hv
theorem Rc.hbS (h : RcH w0 H b vs) (hv : vs[o]? = some v) : Rc w0 H ((⟨b, 0, none⟩ : Addr).add o) v := fun w hs => h w hs o v hv
theorem RcA.hbS0 (h : RcH w0 H b vs) : RcA w0 H ⟨b, 0, none⟩ vs := h
theorem RcA.hbS {n : Nat} (h : RcH w0 H b vs) : RcA w0 H ((⟨b, 0, none⟩ : Addr).add o) ((vs.drop o).take n) := fun w hs i v hv => by
  rw [add_add]
  refine h w hs (o + i) v ?_
  simp only [List.getElem?_take, List.getElem?_drop] at hv
  split at hv
  · exact hv
  · cases hv
end
section
variable {P : Program} {l : List (Nat × Value)} {d : Option Tmp} {ty : TypeId} {pos : String} {af : Array Edge} {g : Option (Nat × Bool)} {w0 : World} {H : List Ck}
/-- A struct within a variable. -/
theorem y_ldS {x : Operand} {T : TypeId} {sz b o : Nat} {vs : List Value} [h : AgT P T sz] (hx : ev l x = some (.pointer (some ((⟨b, 0, none⟩ : Addr).add o)))) (hc : RcH w0 H b vs) (hl : ((vs.drop o).take sz).length = sz) :
    Y P (Sat w0 H) ⟨d, .load T x, ty, pos, af, g⟩ l (.agg ((vs.drop o).take sz).toArray) := y_ldA hx (RcA.hbS hc) hl
end
/-! Structs that are built of parts. -/
def plOf (P : Program) (T : TypeId) : Option (List Value × List (Nat × Nat)) :=
  match P.info? T, P.underlying T with
  | some it, some (.struct fields) => match it.zero, fields.toList.mapM (fun f => (P.info? f.type).map fun i => (f.offset, i.size)) with
    | some z, some pl => some (z.cells.toList, pl)
    | _, _ => none
  | _, _ => none
class BuT (P : Program) (T : TypeId) (zs : outParam (List Value)) (pl : outParam (List (Nat × Nat))) : Prop where
  h : plOf P T = some (zs, pl)
def bldL (pl : List (Nat × Nat)) : List Value → List (Nat × Value) → List Value
  | zs, [] => zs
  | zs, (i, v) :: r => match pl[i]? with
    | some (off, _) => bldL pl (lay zs off v.cells.toList) r
    | none => zs
def bldOk (pl : List (Nat × Nat)) (n : Nat) : List (Nat × Value) → Bool
  | [] => true
  | (i, v) :: r => match pl[i]? with
    | some (off, sz) => Nat.beq v.cells.size sz && Nat.ble (off + sz) n && bldOk pl n r
    | none => false
theorem lay_length (zs : List Value) (off : Nat) (cs : List Value) (h : off + cs.length ≤ zs.length) : (lay zs off cs).length = zs.length := by
  simp [lay]; omega
theorem fill_bld (pl : List (Nat × Nat)) : ∀ (vals : List (Nat × Value)) (zs : List Value), bldOk pl zs.length vals = true → Instr.fill (fun x => pl.toArray[x]?) zs.toArray vals = some (bldL pl zs vals).toArray
  | [], zs, _ => rfl
  | (i, v) :: r, zs, h => by
    unfold bldOk at h
    split at h
    · rename_i off sz hp
      simp only [Bool.and_eq_true] at h
      have h1 := Nat.eq_of_beq_eq_true h.1.1
      have h2 := Nat.le_of_ble_eq_true h.1.2
      have hl : off + v.cells.toList.length ≤ zs.length := by rw [Array.length_toList, h1]; exact h2
      have hf : (v.cells.zipIdx.foldl (fun (cs : Array Value) (x : Value × Nat) => cs.setIfInBounds (off + x.2) x.1) zs.toArray) = (lay zs off v.cells.toList).toArray := by
        have := foldl_set v.cells.toList (zs.take off) ((zs.drop off).take v.cells.toList.length) (zs.drop (off + v.cells.toList.length)) (by simp; rw [Array.length_toList] at hl; omega) 0
        simp only [Nat.not_lt_zero, or_false, Nat.sub_zero] at this
        have e1 : (zs.take off).length = off := by simp; omega
        have e2 : zs.take off ++ (zs.drop off).take v.cells.toList.length ++ zs.drop (off + v.cells.toList.length) = zs := by
          rw [List.append_assoc, ← List.drop_drop, List.take_append_drop, List.take_append_drop]
        rw [e1, e2] at this
        rw [lay, ← this, ← Array.foldl_toList, Array.toList_zipIdx]
      have hn : ¬ (v.cells.size ≠ sz ∨ off + v.cells.size > zs.toArray.size) := by simp; omega
      simp only [Instr.fill, List.getElem?_toArray, hp, bldL]
      have hc : (v.cells.size ≠ sz || decide (off + v.cells.size > zs.toArray.size)) = false := by simp; omega
      simp only [hc]
      have hf' := hf
      simp only [Bool.false_eq_true, if_false]
      rw [show (v.cells.zipIdx.foldl (fun cs x => match x with | (c, j) => cs.setIfInBounds (off + j) c) zs.toArray) = (lay zs off v.cells.toList).toArray from hf]
      simpa using fill_bld pl r _ (by rw [lay_length _ _ _ hl]; exact h.2)
    · cases h
section
variable {P : Program} {S : World → Prop} {l : List (Nat × Value)} {d : Option Tmp} {ty : TypeId} {pos : String} {af : Array Edge} {g : Option (Nat × Bool)}
theorem y_bld {T : TypeId} {zs : List Value} {pl : List (Nat × Nat)} [hT : BuT P T zs pl] {ps : List (Nat × Operand)} {vals : List (Nat × Value)} (hp : evb l ps = some vals) (hok : bldOk pl zs.length vals = true) :
    Y P S ⟨d, .build T ps.toArray, ty, pos, af, g⟩ l (.agg (bldL pl zs vals).toArray) :=
  y_build hp fun w => run_build w T _ _ (by
    have h := hT.h
    unfold plOf at h
    split at h
    · rename_i it fields h1 h2
      split at h
      · rename_i z pl' h3 h4
        simp only [Option.some.injEq, Prod.mk.injEq] at h
        obtain ⟨rfl, rfl⟩ := h
        unfold Program.built
        simp only [h1, h2, h3, h4]
        have := fill_bld pl' vals z.cells.toList hok
        simpa using this
      · cases h
    · cases h)
end
/-- Where a slice lies that is not nil. -/
def gA (a : Option Addr) : Addr := a.getD ⟨0, 0, none⟩
section
variable {P : Program} {l : List (Nat × Value)} {d : Option Tmp} {ty : TypeId} {pos : String} {af : Array Edge} {g : Option (Nat × Bool)} {w0 : World} {H : List Ck} {α : Type} [Cel α] {a : Option Addr} {c : Nat}
theorem rsl_gA {xs : List α} (h : RSl w0 H a c xs) (hx : 0 < xs.length) {w : World} (hs : Sat w0 H w) : a = some (Sx.gA a) := by
  obtain ⟨ad, rfl⟩ := RSl.some h hx w hs
  rfl
/-- A slice of n things that is no nil if there are some. -/
def RLn (w0 : World) (H : List Ck) (a : Option Addr) (n : Nat) : Prop := ∀ w, Sat w0 H w → 0 < n → a = some (gA a)
theorem RLn.tl {k : Ck} {n : Nat} (h : RLn w0 H a n) : RLn w0 (k :: H) a n := fun w hs => h w hs.tl
omit [Cel α] in
theorem RLn.sl {_i : Cel α} {xs : List α} (h : RSl w0 H a c xs) : RLn w0 H a xs.length := fun _ hs hn => rsl_gA h hn hs
theorem RLn.by {xs : List UInt8} (h : RBy w0 H a c xs) : RLn w0 H a xs.length := fun _ hs hn => rsl_gA h.sl' hn hs
theorem RLn.en {xs : List KV} (h : REn w0 H a c xs) : RLn w0 H a xs.length := fun _ hs hn => rsl_gA h.sl' hn hs
omit [Cel α] in
theorem RLn.slw {_i : Cel α} {n : Nat} {xs : List α} (h : RSl w0 H a c xs) (hn : n ≤ xs.length) : RLn w0 H a n := fun _ hs h0 => rsl_gA h (by omega) hs
theorem RLn.byw {n : Nat} {xs : List UInt8} (h : RBy w0 H a c xs) (hn : n ≤ xs.length) : RLn w0 H a n := fun _ hs h0 => rsl_gA h.sl' (by omega) hs
theorem RLn.enw {n : Nat} {xs : List KV} (h : REn w0 H a c xs) (hn : n ≤ xs.length) : RLn w0 H a n := fun _ hs h0 => rsl_gA h.sl' (by omega) hs
theorem RLn.hd {E sz n : Nat} {cs : List Value} : RLn w0 (.own E sz a n c cs :: H) a n := fun _ hs hn => by
  have h := Sat.ownOf (c' := .own E sz a n c cs) .hd hs
  rcases h.open with ⟨_, h0, _⟩ | ⟨g, _, rfl, _⟩
  · omega
  · rfl
theorem RLn.hdw {E sz n m : Nat} {cs : List Value} (hm : m ≤ n) : RLn w0 (.own E sz a n c cs :: H) a m := fun w hs h0 => RLn.hd w hs (by omega)
theorem y_ixg {x i : Operand} {T E : TypeId} {sz b n : Nat} [hT : SlT P T E sz b] {k : IntKind} {j : Nat} (hx : ev l x = some (.slice a n c)) (hi : ev l i = some (.int k j)) (h : RLn w0 H a n) (hj : j < n) :
    Y P (Sat w0 H) ⟨d, .indexAddr T x i, ty, pos, af, g⟩ l (.pointer (some ((gA a).add (j * sz)))) := .mk fun w hs ρ hρ => by
  have e := h w hs (by omega)
  rw [e] at hx
  exact (y_index (P := P) (S := Sat w0 H) hx hi hj).out w hs ρ hρ
theorem y_ixg0 {x i : Operand} {T E : TypeId} {sz b n : Nat} [hT : SlT P T E sz b] {k : IntKind} (hx : ev l x = some (.slice a n c)) (hi : ev l i = some (.int k 0)) (h : RLn w0 H a n) (hj : 0 < n) :
    Y P (Sat w0 H) ⟨d, .indexAddr T x i, ty, pos, af, g⟩ l (.pointer (some ((gA a).add (0 * sz)))) := y_ixg (j := 0) hx hi h hj
theorem y_ixg1 {x i : Operand} {T E : TypeId} {sz b n : Nat} [hT : SlT P T E sz b] {k : IntKind} (hx : ev l x = some (.slice a n c)) (hi : ev l i = some (.int k 1)) (h : RLn w0 H a n) (hj : 1 < n) :
    Y P (Sat w0 H) ⟨d, .indexAddr T x i, ty, pos, af, g⟩ l (.pointer (some ((gA a).add (1 * sz)))) := y_ixg (j := 1) hx hi h hj
theorem y_ixg2 {x i : Operand} {T E : TypeId} {sz b n : Nat} [hT : SlT P T E sz b] {k : IntKind} (hx : ev l x = some (.slice a n c)) (hi : ev l i = some (.int k 2)) (h : RLn w0 H a n) (hj : 2 < n) :
    Y P (Sat w0 H) ⟨d, .indexAddr T x i, ty, pos, af, g⟩ l (.pointer (some ((gA a).add (2 * sz)))) := y_ixg (j := 2) hx hi h hj
theorem y_ixg3 {x i : Operand} {T E : TypeId} {sz b n : Nat} [hT : SlT P T E sz b] {k : IntKind} (hx : ev l x = some (.slice a n c)) (hi : ev l i = some (.int k 3)) (h : RLn w0 H a n) (hj : 3 < n) :
    Y P (Sat w0 H) ⟨d, .indexAddr T x i, ty, pos, af, g⟩ l (.pointer (some ((gA a).add (3 * sz)))) := y_ixg (j := 3) hx hi h hj
theorem y_ixgp {x i : Operand} {T E : TypeId} {sz b n : Nat} [hT : SlT P T E sz b] {k : IntKind} {j : Nat} (hx : ev l x = some (.slice a n c)) (hi : ev l i = some (.int k ((j : Int) + 1))) (h : RLn w0 H a n) (hj : j + 1 < n) :
    Y P (Sat w0 H) ⟨d, .indexAddr T x i, ty, pos, af, g⟩ l (.pointer (some ((gA a).add ((j + 1) * sz)))) := y_ixg (j := j + 1) hx hi h hj
theorem y_ixgm {x i : Operand} {T E : TypeId} {sz b n : Nat} [hT : SlT P T E sz b] {k : IntKind} {j : Nat} (hx : ev l x = some (.slice a n c)) (hi : ev l i = some (.int k ((j : Int) - 1))) (h : RLn w0 H a n) (hj : 1 ≤ j ∧ j - 1 < n) :
    Y P (Sat w0 H) ⟨d, .indexAddr T x i, ty, pos, af, g⟩ l (.pointer (some ((gA a).add ((j - 1) * sz)))) := y_ixg (j := j - 1) hx (by rw [hi, show ((j : Int) - 1) = ((j - 1 : Nat) : Int) by omega]) h hj.2
section
variable {M : Md} {n : Nat} {ds : Dx} {ops : Array Oper} {Q : Exit → Act → World → Prop} {b : Bool} {rest : Tr}
theorem s_set1g {T : TypeId} [ht : ScT P T] {E : TypeId} {p x : Operand} {i : Nat} {xs : List α} {y : α} {v : Value} {H' : List Ck} (hp : ev l p = some (.pointer (some ((gA a).add (i * 1))))) (hx : ev l x = some v)
    (hA : At (ol E a c xs) (ol E a c (xs.set i y)) H H') (hc : [v] = Cel.f y) (hi : i < xs.length) (h : SL M P n ds ops Q rest l w0 H')
    (hb : M.act b = true := by exact rfl) (hg : gOk ops l g = true := by exact rfl) (hz : Cel.sz α = 1 := by exact rfl) (hk : Chk M H' := by intros; first | exact chk_seq | exact chk_held (by exact entq) | exact chk_held (by exact ent)) : SL M P n ds ops Q (.one b ⟨none, .store T p x, ty, pos, af, g⟩ rest) l w0 H := .mk fun w hw => by
  obtain ⟨ad, rfl⟩ := own_gA (Sat.ownOf hA hw) (by omega)
  exact (s_set1 hp hx hA hc hi h hb hg hz hk).out w hw
end
theorem Rc.byg {xs : List UInt8} (h : RBy w0 H a c xs) {i : Nat} (hi : i < xs.length) : Rc w0 H ((Sx.gA a).add (i * 1)) (bv (xs.getD i 0)) := fun w hs => by
  have e := rsl_gA (RBy.sl' h) (by omega) hs
  rw [e] at h
  exact Rc.by h hi w hs
omit [Cel α] in
theorem Rc.slg {_i : Cel α} {sz : Nat} {xs : List α} (h : RSl w0 H a c xs) {i : Nat} {x : α} (hx : xs[i]? = some x) {v : Value} (hz : sz = Cel.sz α) (hv : (Cel.f x)[0]? = some v) : Rc w0 H ((Sx.gA a).add (i * sz)) v := fun w hs => by
  have e := rsl_gA h (by have := (List.getElem?_eq_some_iff.1 hx).1; omega) hs
  rw [e] at h
  exact Rc.sl' h hx hz hv w hs
omit [Cel α] in
theorem Rc.slog {_i : Cel α} {sz : Nat} {xs : List α} (h : RSl w0 H a c xs) {i o : Nat} {x : α} (hx : xs[i]? = some x) {v : Value} (hz : sz = Cel.sz α) (hv : (Cel.f x)[o]? = some v) : Rc w0 H (((Sx.gA a).add (i * sz)).add o) v := fun w hs => by
  have e := rsl_gA h (by have := (List.getElem?_eq_some_iff.1 hx).1; omega) hs
  rw [e] at h
  exact Rc.slo' h hx hz hv w hs
omit [Cel α] in
theorem RcA.slg {_i : Cel α} {sz : Nat} {xs : List α} (h : RSl w0 H a c xs) {i : Nat} {x : α} (hx : xs[i]? = some x) (hz : sz = Cel.sz α) : RcA w0 H ((Sx.gA a).add (i * sz)) (Cel.f x) := fun w hs => by
  have e := rsl_gA h (by have := (List.getElem?_eq_some_iff.1 hx).1; omega) hs
  rw [e] at h
  exact RcA.sl' h hx hz w hs
end
/-- What an operation yields that only looks. -/
theorem yy {P : Program} {S : World → Prop} {o : Oper} {l : List (Nat × Value)} {v : Value} (h : Y P S o l v := by
  first
    | ((with_reducible (first | apply y_move | apply y_assign | apply y_lensl | apply y_field | apply y_nilc | apply y_not | apply y_min | apply y_max | apply y_cap | apply y_eqnil | apply y_nenil | apply y_eqpn | apply y_nepn | apply y_shr8 | apply y_shr16 | apply y_shr24 | apply y_shr1)) <;> rfl)
    | ((with_reducible apply y_pickT); rfl; rfl; rfl)
    | ((with_reducible apply y_pickF); rfl; rfl; rfl)
    | ((with_reducible apply y_pick) <;> rfl)
    | ((with_reducible apply y_ld); rfl; (focus (first | ((with_reducible apply Rc.hbS0); (focus ((repeat (first | exact RcH.hd | apply RcH.tl)); first | done | fail)); rfl) | ((with_reducible apply Rc.hbS); (focus ((repeat (first | exact RcH.hd | apply RcH.tl)); first | done | fail)); rfl) | ((with_reducible apply Rc.byg); (focus ((repeat (first | assumption | exact RBy.hd | exact RBy.ro rfl (by decide) | exact RBy.nil | apply RBy.tl)); first | done | fail)); omega) | ((with_reducible apply Rc.slog); (focus ((repeat (first | assumption | exact RSl.hd | exact RBy.sl' (by assumption) | exact REn.sl' (by assumption) | exact RSl.nil | apply RSl.tl)); first | done | fail)); (focus (first | assumption | rfl)); rfl; rfl) | ((with_reducible apply Rc.slg); (focus ((repeat (first | assumption | exact RSl.hd | exact RBy.sl' (by assumption) | exact REn.sl' (by assumption) | exact RSl.nil | apply RSl.tl)); first | done | fail)); (focus (first | assumption | rfl)); rfl; rfl) | ((with_reducible apply Rc.by); (focus ((repeat (first | assumption | exact RBy.hd | exact RBy.ro rfl (by decide) | exact RBy.nil | apply RBy.tl)); first | done | fail)); omega) | ((with_reducible apply Rc.slo'); (focus ((repeat (first | assumption | exact RSl.hd | exact RBy.sl' (by assumption) | exact REn.sl' (by assumption) | exact RSl.nil | apply RSl.tl)); first | done | fail)); (focus (first | assumption | rfl)); rfl; rfl) | ((with_reducible apply Rc.sl'); (focus ((repeat (first | assumption | exact RSl.hd | exact RBy.sl' (by assumption) | exact REn.sl' (by assumption) | exact RSl.nil | apply RSl.tl)); first | done | fail)); (focus (first | assumption | rfl)); rfl; rfl) | fail)))
    | ((with_reducible apply y_ldS); rfl; (focus ((repeat (first | exact RcH.hd | apply RcH.tl)); first | done | fail)); rfl)
    | ((with_reducible apply y_ldA); rfl; (focus (first | ((with_reducible apply RcA.hbS0); (focus ((repeat (first | exact RcH.hd | apply RcH.tl)); first | done | fail))) | ((with_reducible apply RcA.slg); (focus ((repeat (first | assumption | exact RSl.hd | exact RBy.sl' (by assumption) | exact REn.sl' (by assumption) | exact RSl.nil | apply RSl.tl)); first | done | fail)); (focus (first | assumption | rfl)); rfl) | ((with_reducible apply RcA.sl'); (focus ((repeat (first | assumption | exact RSl.hd | exact RBy.sl' (by assumption) | exact REn.sl' (by assumption) | exact RSl.nil | apply RSl.tl)); first | done | fail)); (focus (first | assumption | rfl)); rfl) | fail)); rfl)
    | ((with_reducible apply y_index0); rfl; rfl; omega) | ((with_reducible apply y_index1); rfl; rfl; omega) | ((with_reducible apply y_index2); rfl; rfl; omega) | ((with_reducible apply y_index3); rfl; rfl; omega)
    | ((with_reducible apply y_ixg0); rfl; rfl; (focus ((repeat (first | exact RLn.by (by assumption) | exact RLn.sl (by assumption) | exact RLn.en (by assumption) | exact RLn.hd | exact RLn.hdw (by omega) | exact RLn.slw (by assumption) (by omega) | exact RLn.byw (by assumption) (by omega) | exact RLn.enw (by assumption) (by omega) | apply RLn.tl)); first | done | fail)); omega)
    | ((with_reducible apply y_ixg1); rfl; rfl; (focus ((repeat (first | exact RLn.by (by assumption) | exact RLn.sl (by assumption) | exact RLn.en (by assumption) | exact RLn.hd | exact RLn.hdw (by omega) | exact RLn.slw (by assumption) (by omega) | exact RLn.byw (by assumption) (by omega) | exact RLn.enw (by assumption) (by omega) | apply RLn.tl)); first | done | fail)); omega)
    | ((with_reducible apply y_ixg2); rfl; rfl; (focus ((repeat (first | exact RLn.by (by assumption) | exact RLn.sl (by assumption) | exact RLn.en (by assumption) | exact RLn.hd | exact RLn.hdw (by omega) | exact RLn.slw (by assumption) (by omega) | exact RLn.byw (by assumption) (by omega) | exact RLn.enw (by assumption) (by omega) | apply RLn.tl)); first | done | fail)); omega)
    | ((with_reducible apply y_ixg3); rfl; rfl; (focus ((repeat (first | exact RLn.by (by assumption) | exact RLn.sl (by assumption) | exact RLn.en (by assumption) | exact RLn.hd | exact RLn.hdw (by omega) | exact RLn.slw (by assumption) (by omega) | exact RLn.byw (by assumption) (by omega) | exact RLn.enw (by assumption) (by omega) | apply RLn.tl)); first | done | fail)); omega)
    | ((with_reducible apply y_ixg); rfl; rfl; (focus ((repeat (first | exact RLn.by (by assumption) | exact RLn.sl (by assumption) | exact RLn.en (by assumption) | exact RLn.hd | exact RLn.hdw (by omega) | exact RLn.slw (by assumption) (by omega) | exact RLn.byw (by assumption) (by omega) | exact RLn.enw (by assumption) (by omega) | apply RLn.tl)); first | done | fail)); omega)
    | ((with_reducible apply y_ixgp); rfl; rfl; (focus ((repeat (first | exact RLn.by (by assumption) | exact RLn.sl (by assumption) | exact RLn.en (by assumption) | exact RLn.hd | exact RLn.hdw (by omega) | exact RLn.slw (by assumption) (by omega) | exact RLn.byw (by assumption) (by omega) | exact RLn.enw (by assumption) (by omega) | apply RLn.tl)); first | done | fail)); omega)
    | ((with_reducible apply y_ixgm); rfl; rfl; (focus ((repeat (first | exact RLn.by (by assumption) | exact RLn.sl (by assumption) | exact RLn.en (by assumption) | exact RLn.hd | exact RLn.hdw (by omega) | exact RLn.slw (by assumption) (by omega) | exact RLn.byw (by assumption) (by omega) | exact RLn.enw (by assumption) (by omega) | apply RLn.tl)); first | done | fail)); omega)
    | ((with_reducible (first | apply y_add | apply y_sub | apply y_mul | apply y_slF | apply y_slT)); rfl; rfl; omega)
    | ((with_reducible apply y_index); rfl; rfl; omega)
    | ((with_reducible apply y_quo); rfl; omega)
    | ((with_reducible apply y_slB); rfl; rfl; rfl; omega)
    | ((with_reducible apply y_st); rfl; (focus ((repeat (first | assumption | exact RBy.hd | exact RBy.ro rfl (by decide) | exact RBy.nil | apply RBy.tl)); first | done | fail)))
    | ((with_reducible (first | apply y_eqb | apply y_neb | apply y_gtb | apply y_ltb)) <;> rfl)
    | ((with_reducible apply y_seqs); rfl; rfl; with_reducible rfl)
    | ((with_reducible apply y_snes); rfl; rfl; with_reducible rfl)
    | ((with_reducible (first | apply y_seq | apply y_sne | apply y_slt | apply y_sle | apply y_sgt | apply y_sge | apply y_b2i | apply y_i2b | apply y_ext)) <;> rfl)
    | ((with_reducible apply y_sadd); rfl; rfl; first | omega | (simp only [List.length_cons, List.length_nil]; omega))
    | ((with_reducible apply y_shl8); rfl; omega) | ((with_reducible apply y_or8); rfl; rfl; omega; omega)
    | ((with_reducible (first | apply y_neg)); rfl; omega)
    | ((with_reducible apply y_rem); rfl; rfl; omega)
    | ((with_reducible apply y_eqls); rfl; rfl; with_reducible rfl)
    | ((with_reducible apply y_nels); rfl; rfl; with_reducible rfl)
    | ((with_reducible (first | apply y_beq | apply y_bne)) <;> rfl)
    | ((with_reducible (first | apply y_lss | apply y_leq | apply y_gtr | apply y_geq | apply y_eql | apply y_neq)) <;> rfl)
    | ((with_reducible apply y_cv); rfl; omega)
    | ((with_reducible apply y_cvu); rfl; omega)
    | ((with_reducible apply y_conv) <;> rfl)
    | ((with_reducible apply y_bld); rfl; rfl)
    | ((with_reducible apply y_mkf); rfl)
    | ((with_reducible apply y_eqfn0); rfl)
    | ((with_reducible apply y_eqfn); rfl)
    | fail) : Y P S o l v := h
/-- So many steps as may be. -/
theorem sx {J J' : Prop} (h' : J') (h : Hd J' → J := by
  intro kk
  (repeat (first
  | ((first | with_reducible apply s_yS | ((with_reducible apply s_gH); apply s_yH)); rfl; rfl; rfl; (focus (first
    | ((with_reducible (first | apply y_move | apply y_assign | apply y_lensl | apply y_field | apply y_nilc | apply y_not | apply y_min | apply y_max | apply y_cap | apply y_eqnil | apply y_nenil | apply y_eqpn | apply y_nepn | apply y_shr8 | apply y_shr16 | apply y_shr24 | apply y_shr1)) <;> rfl)
    | ((with_reducible apply y_pickT); rfl; rfl; rfl)
    | ((with_reducible apply y_pickF); rfl; rfl; rfl)
    | ((with_reducible apply y_pick) <;> rfl)
    | ((with_reducible apply y_ld); rfl; (focus (first | ((with_reducible apply Rc.hbS0); (focus ((repeat (first | exact RcH.hd | apply RcH.tl)); first | done | fail)); rfl) | ((with_reducible apply Rc.hbS); (focus ((repeat (first | exact RcH.hd | apply RcH.tl)); first | done | fail)); rfl) | ((with_reducible apply Rc.byg); (focus ((repeat (first | assumption | exact RBy.hd | exact RBy.ro rfl (by decide) | exact RBy.nil | apply RBy.tl)); first | done | fail)); omega) | ((with_reducible apply Rc.slog); (focus ((repeat (first | assumption | exact RSl.hd | exact RBy.sl' (by assumption) | exact REn.sl' (by assumption) | exact RSl.nil | apply RSl.tl)); first | done | fail)); (focus (first | assumption | rfl)); rfl; rfl) | ((with_reducible apply Rc.slg); (focus ((repeat (first | assumption | exact RSl.hd | exact RBy.sl' (by assumption) | exact REn.sl' (by assumption) | exact RSl.nil | apply RSl.tl)); first | done | fail)); (focus (first | assumption | rfl)); rfl; rfl) | ((with_reducible apply Rc.by); (focus ((repeat (first | assumption | exact RBy.hd | exact RBy.ro rfl (by decide) | exact RBy.nil | apply RBy.tl)); first | done | fail)); omega) | ((with_reducible apply Rc.slo'); (focus ((repeat (first | assumption | exact RSl.hd | exact RBy.sl' (by assumption) | exact REn.sl' (by assumption) | exact RSl.nil | apply RSl.tl)); first | done | fail)); (focus (first | assumption | rfl)); rfl; rfl) | ((with_reducible apply Rc.sl'); (focus ((repeat (first | assumption | exact RSl.hd | exact RBy.sl' (by assumption) | exact REn.sl' (by assumption) | exact RSl.nil | apply RSl.tl)); first | done | fail)); (focus (first | assumption | rfl)); rfl; rfl) | fail)))
    | ((with_reducible apply y_ldS); rfl; (focus ((repeat (first | exact RcH.hd | apply RcH.tl)); first | done | fail)); rfl)
    | ((with_reducible apply y_ldA); rfl; (focus (first | ((with_reducible apply RcA.hbS0); (focus ((repeat (first | exact RcH.hd | apply RcH.tl)); first | done | fail))) | ((with_reducible apply RcA.slg); (focus ((repeat (first | assumption | exact RSl.hd | exact RBy.sl' (by assumption) | exact REn.sl' (by assumption) | exact RSl.nil | apply RSl.tl)); first | done | fail)); (focus (first | assumption | rfl)); rfl) | ((with_reducible apply RcA.sl'); (focus ((repeat (first | assumption | exact RSl.hd | exact RBy.sl' (by assumption) | exact REn.sl' (by assumption) | exact RSl.nil | apply RSl.tl)); first | done | fail)); (focus (first | assumption | rfl)); rfl) | fail)); rfl)
    | ((with_reducible apply y_index0); rfl; rfl; omega) | ((with_reducible apply y_index1); rfl; rfl; omega) | ((with_reducible apply y_index2); rfl; rfl; omega) | ((with_reducible apply y_index3); rfl; rfl; omega)
    | ((with_reducible apply y_ixg0); rfl; rfl; (focus ((repeat (first | exact RLn.by (by assumption) | exact RLn.sl (by assumption) | exact RLn.en (by assumption) | exact RLn.hd | exact RLn.hdw (by omega) | exact RLn.slw (by assumption) (by omega) | exact RLn.byw (by assumption) (by omega) | exact RLn.enw (by assumption) (by omega) | apply RLn.tl)); first | done | fail)); omega)
    | ((with_reducible apply y_ixg1); rfl; rfl; (focus ((repeat (first | exact RLn.by (by assumption) | exact RLn.sl (by assumption) | exact RLn.en (by assumption) | exact RLn.hd | exact RLn.hdw (by omega) | exact RLn.slw (by assumption) (by omega) | exact RLn.byw (by assumption) (by omega) | exact RLn.enw (by assumption) (by omega) | apply RLn.tl)); first | done | fail)); omega)
    | ((with_reducible apply y_ixg2); rfl; rfl; (focus ((repeat (first | exact RLn.by (by assumption) | exact RLn.sl (by assumption) | exact RLn.en (by assumption) | exact RLn.hd | exact RLn.hdw (by omega) | exact RLn.slw (by assumption) (by omega) | exact RLn.byw (by assumption) (by omega) | exact RLn.enw (by assumption) (by omega) | apply RLn.tl)); first | done | fail)); omega)
    | ((with_reducible apply y_ixg3); rfl; rfl; (focus ((repeat (first | exact RLn.by (by assumption) | exact RLn.sl (by assumption) | exact RLn.en (by assumption) | exact RLn.hd | exact RLn.hdw (by omega) | exact RLn.slw (by assumption) (by omega) | exact RLn.byw (by assumption) (by omega) | exact RLn.enw (by assumption) (by omega) | apply RLn.tl)); first | done | fail)); omega)
    | ((with_reducible apply y_ixg); rfl; rfl; (focus ((repeat (first | exact RLn.by (by assumption) | exact RLn.sl (by assumption) | exact RLn.en (by assumption) | exact RLn.hd | exact RLn.hdw (by omega) | exact RLn.slw (by assumption) (by omega) | exact RLn.byw (by assumption) (by omega) | exact RLn.enw (by assumption) (by omega) | apply RLn.tl)); first | done | fail)); omega)
    | ((with_reducible apply y_ixgp); rfl; rfl; (focus ((repeat (first | exact RLn.by (by assumption) | exact RLn.sl (by assumption) | exact RLn.en (by assumption) | exact RLn.hd | exact RLn.hdw (by omega) | exact RLn.slw (by assumption) (by omega) | exact RLn.byw (by assumption) (by omega) | exact RLn.enw (by assumption) (by omega) | apply RLn.tl)); first | done | fail)); omega)
    | ((with_reducible apply y_ixgm); rfl; rfl; (focus ((repeat (first | exact RLn.by (by assumption) | exact RLn.sl (by assumption) | exact RLn.en (by assumption) | exact RLn.hd | exact RLn.hdw (by omega) | exact RLn.slw (by assumption) (by omega) | exact RLn.byw (by assumption) (by omega) | exact RLn.enw (by assumption) (by omega) | apply RLn.tl)); first | done | fail)); omega)
    | ((with_reducible (first | apply y_add | apply y_sub | apply y_mul | apply y_slF | apply y_slT)); rfl; rfl; omega)
    | ((with_reducible apply y_index); rfl; rfl; omega)
    | ((with_reducible apply y_quo); rfl; omega)
    | ((with_reducible apply y_slB); rfl; rfl; rfl; omega)
    | ((with_reducible apply y_st); rfl; (focus ((repeat (first | assumption | exact RBy.hd | exact RBy.ro rfl (by decide) | exact RBy.nil | apply RBy.tl)); first | done | fail)))
    | ((with_reducible (first | apply y_eqb | apply y_neb | apply y_gtb | apply y_ltb)) <;> rfl)
    | ((with_reducible apply y_seqs); rfl; rfl; with_reducible rfl)
    | ((with_reducible apply y_snes); rfl; rfl; with_reducible rfl)
    | ((with_reducible (first | apply y_seq | apply y_sne | apply y_slt | apply y_sle | apply y_sgt | apply y_sge | apply y_b2i | apply y_i2b | apply y_ext)) <;> rfl)
    | ((with_reducible apply y_sadd); rfl; rfl; first | omega | (simp only [List.length_cons, List.length_nil]; omega))
    | ((with_reducible apply y_shl8); rfl; omega) | ((with_reducible apply y_or8); rfl; rfl; omega; omega)
    | ((with_reducible (first | apply y_neg)); rfl; omega)
    | ((with_reducible apply y_rem); rfl; rfl; omega)
    | ((with_reducible apply y_eqls); rfl; rfl; with_reducible rfl)
    | ((with_reducible apply y_nels); rfl; rfl; with_reducible rfl)
    | ((with_reducible (first | apply y_beq | apply y_bne)) <;> rfl)
    | ((with_reducible (first | apply y_lss | apply y_leq | apply y_gtr | apply y_geq | apply y_eql | apply y_neq)) <;> rfl)
    | ((with_reducible apply y_cv); rfl; omega)
    | ((with_reducible apply y_cvu); rfl; omega)
    | ((with_reducible apply y_conv) <;> rfl)
    | ((with_reducible apply y_bld); rfl; rfl)
    | ((with_reducible apply y_mkf); rfl)
    | ((with_reducible apply y_eqfn0); rfl)
    | ((with_reducible apply y_eqfn); rfl)
    | fail)))
  | with_reducible (first | apply s_seq | apply s_reg | apply s_nil | apply s_next | apply s_block | apply s_exit | apply s_ret | apply s_skip | apply s_then_exit | apply s_then_ret | apply s_blk_hit | apply s_blk_ret | apply s_blk_normal | apply s_nopan)
  | ((with_reducible apply s_blk_miss); rfl)
  | ((with_reducible apply s_condT); rfl)
  | ((with_reducible apply s_condF); rfl)
  | ((with_reducible apply s_gL); apply s_sk; rfl; rfl)
  | ((with_reducible apply s_gL); apply s_gst; first
    | refine s_store rfl rfl (by exact at_) (by exact rfl) rfl ?_
    | refine s_store0 rfl rfl (by exact at_) (by exact rfl) rfl ?_
    | refine s_storeW rfl rfl (by exact at_) (by exact rfl) rfl rfl ?_
    | refine s_storeA rfl rfl (by exact at_) (by exact rfl) rfl rfl ?_
    | fail)
  | fail))
  exact kk.out) : J := h ⟨h'⟩
/-- One step at least. -/
theorem sx1 {J J' : Prop} (h' : J') (h : Hd J' → J := by
  intro kk
  (first
  | ((first | with_reducible apply s_yS | ((with_reducible apply s_gH); apply s_yH)); rfl; rfl; rfl; (focus (first
    | ((with_reducible (first | apply y_move | apply y_assign | apply y_lensl | apply y_field | apply y_nilc | apply y_not | apply y_min | apply y_max | apply y_cap | apply y_eqnil | apply y_nenil | apply y_eqpn | apply y_nepn | apply y_shr8 | apply y_shr16 | apply y_shr24 | apply y_shr1)) <;> rfl)
    | ((with_reducible apply y_pickT); rfl; rfl; rfl)
    | ((with_reducible apply y_pickF); rfl; rfl; rfl)
    | ((with_reducible apply y_pick) <;> rfl)
    | ((with_reducible apply y_ld); rfl; (focus (first | ((with_reducible apply Rc.hbS0); (focus ((repeat (first | exact RcH.hd | apply RcH.tl)); first | done | fail)); rfl) | ((with_reducible apply Rc.hbS); (focus ((repeat (first | exact RcH.hd | apply RcH.tl)); first | done | fail)); rfl) | ((with_reducible apply Rc.byg); (focus ((repeat (first | assumption | exact RBy.hd | exact RBy.ro rfl (by decide) | exact RBy.nil | apply RBy.tl)); first | done | fail)); omega) | ((with_reducible apply Rc.slog); (focus ((repeat (first | assumption | exact RSl.hd | exact RBy.sl' (by assumption) | exact REn.sl' (by assumption) | exact RSl.nil | apply RSl.tl)); first | done | fail)); (focus (first | assumption | rfl)); rfl; rfl) | ((with_reducible apply Rc.slg); (focus ((repeat (first | assumption | exact RSl.hd | exact RBy.sl' (by assumption) | exact REn.sl' (by assumption) | exact RSl.nil | apply RSl.tl)); first | done | fail)); (focus (first | assumption | rfl)); rfl; rfl) | ((with_reducible apply Rc.by); (focus ((repeat (first | assumption | exact RBy.hd | exact RBy.ro rfl (by decide) | exact RBy.nil | apply RBy.tl)); first | done | fail)); omega) | ((with_reducible apply Rc.slo'); (focus ((repeat (first | assumption | exact RSl.hd | exact RBy.sl' (by assumption) | exact REn.sl' (by assumption) | exact RSl.nil | apply RSl.tl)); first | done | fail)); (focus (first | assumption | rfl)); rfl; rfl) | ((with_reducible apply Rc.sl'); (focus ((repeat (first | assumption | exact RSl.hd | exact RBy.sl' (by assumption) | exact REn.sl' (by assumption) | exact RSl.nil | apply RSl.tl)); first | done | fail)); (focus (first | assumption | rfl)); rfl; rfl) | fail)))
    | ((with_reducible apply y_ldS); rfl; (focus ((repeat (first | exact RcH.hd | apply RcH.tl)); first | done | fail)); rfl)
    | ((with_reducible apply y_ldA); rfl; (focus (first | ((with_reducible apply RcA.hbS0); (focus ((repeat (first | exact RcH.hd | apply RcH.tl)); first | done | fail))) | ((with_reducible apply RcA.slg); (focus ((repeat (first | assumption | exact RSl.hd | exact RBy.sl' (by assumption) | exact REn.sl' (by assumption) | exact RSl.nil | apply RSl.tl)); first | done | fail)); (focus (first | assumption | rfl)); rfl) | ((with_reducible apply RcA.sl'); (focus ((repeat (first | assumption | exact RSl.hd | exact RBy.sl' (by assumption) | exact REn.sl' (by assumption) | exact RSl.nil | apply RSl.tl)); first | done | fail)); (focus (first | assumption | rfl)); rfl) | fail)); rfl)
    | ((with_reducible apply y_index0); rfl; rfl; omega) | ((with_reducible apply y_index1); rfl; rfl; omega) | ((with_reducible apply y_index2); rfl; rfl; omega) | ((with_reducible apply y_index3); rfl; rfl; omega)
    | ((with_reducible apply y_ixg0); rfl; rfl; (focus ((repeat (first | exact RLn.by (by assumption) | exact RLn.sl (by assumption) | exact RLn.en (by assumption) | exact RLn.hd | exact RLn.hdw (by omega) | exact RLn.slw (by assumption) (by omega) | exact RLn.byw (by assumption) (by omega) | exact RLn.enw (by assumption) (by omega) | apply RLn.tl)); first | done | fail)); omega)
    | ((with_reducible apply y_ixg1); rfl; rfl; (focus ((repeat (first | exact RLn.by (by assumption) | exact RLn.sl (by assumption) | exact RLn.en (by assumption) | exact RLn.hd | exact RLn.hdw (by omega) | exact RLn.slw (by assumption) (by omega) | exact RLn.byw (by assumption) (by omega) | exact RLn.enw (by assumption) (by omega) | apply RLn.tl)); first | done | fail)); omega)
    | ((with_reducible apply y_ixg2); rfl; rfl; (focus ((repeat (first | exact RLn.by (by assumption) | exact RLn.sl (by assumption) | exact RLn.en (by assumption) | exact RLn.hd | exact RLn.hdw (by omega) | exact RLn.slw (by assumption) (by omega) | exact RLn.byw (by assumption) (by omega) | exact RLn.enw (by assumption) (by omega) | apply RLn.tl)); first | done | fail)); omega)
    | ((with_reducible apply y_ixg3); rfl; rfl; (focus ((repeat (first | exact RLn.by (by assumption) | exact RLn.sl (by assumption) | exact RLn.en (by assumption) | exact RLn.hd | exact RLn.hdw (by omega) | exact RLn.slw (by assumption) (by omega) | exact RLn.byw (by assumption) (by omega) | exact RLn.enw (by assumption) (by omega) | apply RLn.tl)); first | done | fail)); omega)
    | ((with_reducible apply y_ixg); rfl; rfl; (focus ((repeat (first | exact RLn.by (by assumption) | exact RLn.sl (by assumption) | exact RLn.en (by assumption) | exact RLn.hd | exact RLn.hdw (by omega) | exact RLn.slw (by assumption) (by omega) | exact RLn.byw (by assumption) (by omega) | exact RLn.enw (by assumption) (by omega) | apply RLn.tl)); first | done | fail)); omega)
    | ((with_reducible apply y_ixgp); rfl; rfl; (focus ((repeat (first | exact RLn.by (by assumption) | exact RLn.sl (by assumption) | exact RLn.en (by assumption) | exact RLn.hd | exact RLn.hdw (by omega) | exact RLn.slw (by assumption) (by omega) | exact RLn.byw (by assumption) (by omega) | exact RLn.enw (by assumption) (by omega) | apply RLn.tl)); first | done | fail)); omega)
    | ((with_reducible apply y_ixgm); rfl; rfl; (focus ((repeat (first | exact RLn.by (by assumption) | exact RLn.sl (by assumption) | exact RLn.en (by assumption) | exact RLn.hd | exact RLn.hdw (by omega) | exact RLn.slw (by assumption) (by omega) | exact RLn.byw (by assumption) (by omega) | exact RLn.enw (by assumption) (by omega) | apply RLn.tl)); first | done | fail)); omega)
    | ((with_reducible (first | apply y_add | apply y_sub | apply y_mul | apply y_slF | apply y_slT)); rfl; rfl; omega)
    | ((with_reducible apply y_index); rfl; rfl; omega)
    | ((with_reducible apply y_quo); rfl; omega)
    | ((with_reducible apply y_slB); rfl; rfl; rfl; omega)
    | ((with_reducible apply y_st); rfl; (focus ((repeat (first | assumption | exact RBy.hd | exact RBy.ro rfl (by decide) | exact RBy.nil | apply RBy.tl)); first | done | fail)))
    | ((with_reducible (first | apply y_eqb | apply y_neb | apply y_gtb | apply y_ltb)) <;> rfl)
    | ((with_reducible apply y_seqs); rfl; rfl; with_reducible rfl)
    | ((with_reducible apply y_snes); rfl; rfl; with_reducible rfl)
    | ((with_reducible (first | apply y_seq | apply y_sne | apply y_slt | apply y_sle | apply y_sgt | apply y_sge | apply y_b2i | apply y_i2b | apply y_ext)) <;> rfl)
    | ((with_reducible apply y_sadd); rfl; rfl; first | omega | (simp only [List.length_cons, List.length_nil]; omega))
    | ((with_reducible apply y_shl8); rfl; omega) | ((with_reducible apply y_or8); rfl; rfl; omega; omega)
    | ((with_reducible (first | apply y_neg)); rfl; omega)
    | ((with_reducible apply y_rem); rfl; rfl; omega)
    | ((with_reducible apply y_eqls); rfl; rfl; with_reducible rfl)
    | ((with_reducible apply y_nels); rfl; rfl; with_reducible rfl)
    | ((with_reducible (first | apply y_beq | apply y_bne)) <;> rfl)
    | ((with_reducible (first | apply y_lss | apply y_leq | apply y_gtr | apply y_geq | apply y_eql | apply y_neq)) <;> rfl)
    | ((with_reducible apply y_cv); rfl; omega)
    | ((with_reducible apply y_cvu); rfl; omega)
    | ((with_reducible apply y_conv) <;> rfl)
    | ((with_reducible apply y_bld); rfl; rfl)
    | ((with_reducible apply y_mkf); rfl)
    | ((with_reducible apply y_eqfn0); rfl)
    | ((with_reducible apply y_eqfn); rfl)
    | fail)))
  | with_reducible (first | apply s_seq | apply s_reg | apply s_nil | apply s_next | apply s_block | apply s_exit | apply s_ret | apply s_skip | apply s_then_exit | apply s_then_ret | apply s_blk_hit | apply s_blk_ret | apply s_blk_normal | apply s_nopan)
  | ((with_reducible apply s_blk_miss); rfl)
  | ((with_reducible apply s_condT); rfl)
  | ((with_reducible apply s_condF); rfl)
  | ((with_reducible apply s_gL); apply s_sk; rfl; rfl)
  | ((with_reducible apply s_gL); apply s_gst; first
    | refine s_store rfl rfl (by exact at_) (by exact rfl) rfl ?_
    | refine s_store0 rfl rfl (by exact at_) (by exact rfl) rfl ?_
    | refine s_storeW rfl rfl (by exact at_) (by exact rfl) rfl rfl ?_
    | refine s_storeA rfl rfl (by exact at_) (by exact rfl) rfl rfl ?_
    | fail)
  | fail)
  (repeat (first
  | ((first | with_reducible apply s_yS | ((with_reducible apply s_gH); apply s_yH)); rfl; rfl; rfl; (focus (first
    | ((with_reducible (first | apply y_move | apply y_assign | apply y_lensl | apply y_field | apply y_nilc | apply y_not | apply y_min | apply y_max | apply y_cap | apply y_eqnil | apply y_nenil | apply y_eqpn | apply y_nepn | apply y_shr8 | apply y_shr16 | apply y_shr24 | apply y_shr1)) <;> rfl)
    | ((with_reducible apply y_pickT); rfl; rfl; rfl)
    | ((with_reducible apply y_pickF); rfl; rfl; rfl)
    | ((with_reducible apply y_pick) <;> rfl)
    | ((with_reducible apply y_ld); rfl; (focus (first | ((with_reducible apply Rc.hbS0); (focus ((repeat (first | exact RcH.hd | apply RcH.tl)); first | done | fail)); rfl) | ((with_reducible apply Rc.hbS); (focus ((repeat (first | exact RcH.hd | apply RcH.tl)); first | done | fail)); rfl) | ((with_reducible apply Rc.byg); (focus ((repeat (first | assumption | exact RBy.hd | exact RBy.ro rfl (by decide) | exact RBy.nil | apply RBy.tl)); first | done | fail)); omega) | ((with_reducible apply Rc.slog); (focus ((repeat (first | assumption | exact RSl.hd | exact RBy.sl' (by assumption) | exact REn.sl' (by assumption) | exact RSl.nil | apply RSl.tl)); first | done | fail)); (focus (first | assumption | rfl)); rfl; rfl) | ((with_reducible apply Rc.slg); (focus ((repeat (first | assumption | exact RSl.hd | exact RBy.sl' (by assumption) | exact REn.sl' (by assumption) | exact RSl.nil | apply RSl.tl)); first | done | fail)); (focus (first | assumption | rfl)); rfl; rfl) | ((with_reducible apply Rc.by); (focus ((repeat (first | assumption | exact RBy.hd | exact RBy.ro rfl (by decide) | exact RBy.nil | apply RBy.tl)); first | done | fail)); omega) | ((with_reducible apply Rc.slo'); (focus ((repeat (first | assumption | exact RSl.hd | exact RBy.sl' (by assumption) | exact REn.sl' (by assumption) | exact RSl.nil | apply RSl.tl)); first | done | fail)); (focus (first | assumption | rfl)); rfl; rfl) | ((with_reducible apply Rc.sl'); (focus ((repeat (first | assumption | exact RSl.hd | exact RBy.sl' (by assumption) | exact REn.sl' (by assumption) | exact RSl.nil | apply RSl.tl)); first | done | fail)); (focus (first | assumption | rfl)); rfl; rfl) | fail)))
    | ((with_reducible apply y_ldS); rfl; (focus ((repeat (first | exact RcH.hd | apply RcH.tl)); first | done | fail)); rfl)
    | ((with_reducible apply y_ldA); rfl; (focus (first | ((with_reducible apply RcA.hbS0); (focus ((repeat (first | exact RcH.hd | apply RcH.tl)); first | done | fail))) | ((with_reducible apply RcA.slg); (focus ((repeat (first | assumption | exact RSl.hd | exact RBy.sl' (by assumption) | exact REn.sl' (by assumption) | exact RSl.nil | apply RSl.tl)); first | done | fail)); (focus (first | assumption | rfl)); rfl) | ((with_reducible apply RcA.sl'); (focus ((repeat (first | assumption | exact RSl.hd | exact RBy.sl' (by assumption) | exact REn.sl' (by assumption) | exact RSl.nil | apply RSl.tl)); first | done | fail)); (focus (first | assumption | rfl)); rfl) | fail)); rfl)
    | ((with_reducible apply y_index0); rfl; rfl; omega) | ((with_reducible apply y_index1); rfl; rfl; omega) | ((with_reducible apply y_index2); rfl; rfl; omega) | ((with_reducible apply y_index3); rfl; rfl; omega)
    | ((with_reducible apply y_ixg0); rfl; rfl; (focus ((repeat (first | exact RLn.by (by assumption) | exact RLn.sl (by assumption) | exact RLn.en (by assumption) | exact RLn.hd | exact RLn.hdw (by omega) | exact RLn.slw (by assumption) (by omega) | exact RLn.byw (by assumption) (by omega) | exact RLn.enw (by assumption) (by omega) | apply RLn.tl)); first | done | fail)); omega)
    | ((with_reducible apply y_ixg1); rfl; rfl; (focus ((repeat (first | exact RLn.by (by assumption) | exact RLn.sl (by assumption) | exact RLn.en (by assumption) | exact RLn.hd | exact RLn.hdw (by omega) | exact RLn.slw (by assumption) (by omega) | exact RLn.byw (by assumption) (by omega) | exact RLn.enw (by assumption) (by omega) | apply RLn.tl)); first | done | fail)); omega)
    | ((with_reducible apply y_ixg2); rfl; rfl; (focus ((repeat (first | exact RLn.by (by assumption) | exact RLn.sl (by assumption) | exact RLn.en (by assumption) | exact RLn.hd | exact RLn.hdw (by omega) | exact RLn.slw (by assumption) (by omega) | exact RLn.byw (by assumption) (by omega) | exact RLn.enw (by assumption) (by omega) | apply RLn.tl)); first | done | fail)); omega)
    | ((with_reducible apply y_ixg3); rfl; rfl; (focus ((repeat (first | exact RLn.by (by assumption) | exact RLn.sl (by assumption) | exact RLn.en (by assumption) | exact RLn.hd | exact RLn.hdw (by omega) | exact RLn.slw (by assumption) (by omega) | exact RLn.byw (by assumption) (by omega) | exact RLn.enw (by assumption) (by omega) | apply RLn.tl)); first | done | fail)); omega)
    | ((with_reducible apply y_ixg); rfl; rfl; (focus ((repeat (first | exact RLn.by (by assumption) | exact RLn.sl (by assumption) | exact RLn.en (by assumption) | exact RLn.hd | exact RLn.hdw (by omega) | exact RLn.slw (by assumption) (by omega) | exact RLn.byw (by assumption) (by omega) | exact RLn.enw (by assumption) (by omega) | apply RLn.tl)); first | done | fail)); omega)
    | ((with_reducible apply y_ixgp); rfl; rfl; (focus ((repeat (first | exact RLn.by (by assumption) | exact RLn.sl (by assumption) | exact RLn.en (by assumption) | exact RLn.hd | exact RLn.hdw (by omega) | exact RLn.slw (by assumption) (by omega) | exact RLn.byw (by assumption) (by omega) | exact RLn.enw (by assumption) (by omega) | apply RLn.tl)); first | done | fail)); omega)
    | ((with_reducible apply y_ixgm); rfl; rfl; (focus ((repeat (first | exact RLn.by (by assumption) | exact RLn.sl (by assumption) | exact RLn.en (by assumption) | exact RLn.hd | exact RLn.hdw (by omega) | exact RLn.slw (by assumption) (by omega) | exact RLn.byw (by assumption) (by omega) | exact RLn.enw (by assumption) (by omega) | apply RLn.tl)); first | done | fail)); omega)
    | ((with_reducible (first | apply y_add | apply y_sub | apply y_mul | apply y_slF | apply y_slT)); rfl; rfl; omega)
    | ((with_reducible apply y_index); rfl; rfl; omega)
    | ((with_reducible apply y_quo); rfl; omega)
    | ((with_reducible apply y_slB); rfl; rfl; rfl; omega)
    | ((with_reducible apply y_st); rfl; (focus ((repeat (first | assumption | exact RBy.hd | exact RBy.ro rfl (by decide) | exact RBy.nil | apply RBy.tl)); first | done | fail)))
    | ((with_reducible (first | apply y_eqb | apply y_neb | apply y_gtb | apply y_ltb)) <;> rfl)
    | ((with_reducible apply y_seqs); rfl; rfl; with_reducible rfl)
    | ((with_reducible apply y_snes); rfl; rfl; with_reducible rfl)
    | ((with_reducible (first | apply y_seq | apply y_sne | apply y_slt | apply y_sle | apply y_sgt | apply y_sge | apply y_b2i | apply y_i2b | apply y_ext)) <;> rfl)
    | ((with_reducible apply y_sadd); rfl; rfl; first | omega | (simp only [List.length_cons, List.length_nil]; omega))
    | ((with_reducible apply y_shl8); rfl; omega) | ((with_reducible apply y_or8); rfl; rfl; omega; omega)
    | ((with_reducible (first | apply y_neg)); rfl; omega)
    | ((with_reducible apply y_rem); rfl; rfl; omega)
    | ((with_reducible apply y_eqls); rfl; rfl; with_reducible rfl)
    | ((with_reducible apply y_nels); rfl; rfl; with_reducible rfl)
    | ((with_reducible (first | apply y_beq | apply y_bne)) <;> rfl)
    | ((with_reducible (first | apply y_lss | apply y_leq | apply y_gtr | apply y_geq | apply y_eql | apply y_neq)) <;> rfl)
    | ((with_reducible apply y_cv); rfl; omega)
    | ((with_reducible apply y_cvu); rfl; omega)
    | ((with_reducible apply y_conv) <;> rfl)
    | ((with_reducible apply y_bld); rfl; rfl)
    | ((with_reducible apply y_mkf); rfl)
    | ((with_reducible apply y_eqfn0); rfl)
    | ((with_reducible apply y_eqfn); rfl)
    | fail)))
  | with_reducible (first | apply s_seq | apply s_reg | apply s_nil | apply s_next | apply s_block | apply s_exit | apply s_ret | apply s_skip | apply s_then_exit | apply s_then_ret | apply s_blk_hit | apply s_blk_ret | apply s_blk_normal | apply s_nopan)
  | ((with_reducible apply s_blk_miss); rfl)
  | ((with_reducible apply s_condT); rfl)
  | ((with_reducible apply s_condF); rfl)
  | ((with_reducible apply s_gL); apply s_sk; rfl; rfl)
  | ((with_reducible apply s_gL); apply s_gst; first
    | refine s_store rfl rfl (by exact at_) (by exact rfl) rfl ?_
    | refine s_store0 rfl rfl (by exact at_) (by exact rfl) rfl ?_
    | refine s_storeW rfl rfl (by exact at_) (by exact rfl) rfl rfl ?_
    | refine s_storeA rfl rfl (by exact at_) (by exact rfl) rfl rfl ?_
    | fail)
  | fail))
  exact kk.out) : J := h ⟨h'⟩
/-- Up to a region where the walk is to stop. -/
theorem sxs {J J' : Prop} (h' : J') (h : Hd J' → J := by
  intro kk
  (repeat ((fail_if_success (with_reducible (refine s_stop (by assumption) ?_))); (first
  | ((first | with_reducible apply s_yS | ((with_reducible apply s_gH); apply s_yH)); rfl; rfl; rfl; (focus (first
    | ((with_reducible (first | apply y_move | apply y_assign | apply y_lensl | apply y_field | apply y_nilc | apply y_not | apply y_min | apply y_max | apply y_cap | apply y_eqnil | apply y_nenil | apply y_eqpn | apply y_nepn | apply y_shr8 | apply y_shr16 | apply y_shr24 | apply y_shr1)) <;> rfl)
    | ((with_reducible apply y_pickT); rfl; rfl; rfl)
    | ((with_reducible apply y_pickF); rfl; rfl; rfl)
    | ((with_reducible apply y_pick) <;> rfl)
    | ((with_reducible apply y_ld); rfl; (focus (first | ((with_reducible apply Rc.hbS0); (focus ((repeat (first | exact RcH.hd | apply RcH.tl)); first | done | fail)); rfl) | ((with_reducible apply Rc.hbS); (focus ((repeat (first | exact RcH.hd | apply RcH.tl)); first | done | fail)); rfl) | ((with_reducible apply Rc.byg); (focus ((repeat (first | assumption | exact RBy.hd | exact RBy.ro rfl (by decide) | exact RBy.nil | apply RBy.tl)); first | done | fail)); omega) | ((with_reducible apply Rc.slog); (focus ((repeat (first | assumption | exact RSl.hd | exact RBy.sl' (by assumption) | exact REn.sl' (by assumption) | exact RSl.nil | apply RSl.tl)); first | done | fail)); (focus (first | assumption | rfl)); rfl; rfl) | ((with_reducible apply Rc.slg); (focus ((repeat (first | assumption | exact RSl.hd | exact RBy.sl' (by assumption) | exact REn.sl' (by assumption) | exact RSl.nil | apply RSl.tl)); first | done | fail)); (focus (first | assumption | rfl)); rfl; rfl) | ((with_reducible apply Rc.by); (focus ((repeat (first | assumption | exact RBy.hd | exact RBy.ro rfl (by decide) | exact RBy.nil | apply RBy.tl)); first | done | fail)); omega) | ((with_reducible apply Rc.slo'); (focus ((repeat (first | assumption | exact RSl.hd | exact RBy.sl' (by assumption) | exact REn.sl' (by assumption) | exact RSl.nil | apply RSl.tl)); first | done | fail)); (focus (first | assumption | rfl)); rfl; rfl) | ((with_reducible apply Rc.sl'); (focus ((repeat (first | assumption | exact RSl.hd | exact RBy.sl' (by assumption) | exact REn.sl' (by assumption) | exact RSl.nil | apply RSl.tl)); first | done | fail)); (focus (first | assumption | rfl)); rfl; rfl) | fail)))
    | ((with_reducible apply y_ldS); rfl; (focus ((repeat (first | exact RcH.hd | apply RcH.tl)); first | done | fail)); rfl)
    | ((with_reducible apply y_ldA); rfl; (focus (first | ((with_reducible apply RcA.hbS0); (focus ((repeat (first | exact RcH.hd | apply RcH.tl)); first | done | fail))) | ((with_reducible apply RcA.slg); (focus ((repeat (first | assumption | exact RSl.hd | exact RBy.sl' (by assumption) | exact REn.sl' (by assumption) | exact RSl.nil | apply RSl.tl)); first | done | fail)); (focus (first | assumption | rfl)); rfl) | ((with_reducible apply RcA.sl'); (focus ((repeat (first | assumption | exact RSl.hd | exact RBy.sl' (by assumption) | exact REn.sl' (by assumption) | exact RSl.nil | apply RSl.tl)); first | done | fail)); (focus (first | assumption | rfl)); rfl) | fail)); rfl)
    | ((with_reducible apply y_index0); rfl; rfl; omega) | ((with_reducible apply y_index1); rfl; rfl; omega) | ((with_reducible apply y_index2); rfl; rfl; omega) | ((with_reducible apply y_index3); rfl; rfl; omega)
    | ((with_reducible apply y_ixg0); rfl; rfl; (focus ((repeat (first | exact RLn.by (by assumption) | exact RLn.sl (by assumption) | exact RLn.en (by assumption) | exact RLn.hd | exact RLn.hdw (by omega) | exact RLn.slw (by assumption) (by omega) | exact RLn.byw (by assumption) (by omega) | exact RLn.enw (by assumption) (by omega) | apply RLn.tl)); first | done | fail)); omega)
    | ((with_reducible apply y_ixg1); rfl; rfl; (focus ((repeat (first | exact RLn.by (by assumption) | exact RLn.sl (by assumption) | exact RLn.en (by assumption) | exact RLn.hd | exact RLn.hdw (by omega) | exact RLn.slw (by assumption) (by omega) | exact RLn.byw (by assumption) (by omega) | exact RLn.enw (by assumption) (by omega) | apply RLn.tl)); first | done | fail)); omega)
    | ((with_reducible apply y_ixg2); rfl; rfl; (focus ((repeat (first | exact RLn.by (by assumption) | exact RLn.sl (by assumption) | exact RLn.en (by assumption) | exact RLn.hd | exact RLn.hdw (by omega) | exact RLn.slw (by assumption) (by omega) | exact RLn.byw (by assumption) (by omega) | exact RLn.enw (by assumption) (by omega) | apply RLn.tl)); first | done | fail)); omega)
    | ((with_reducible apply y_ixg3); rfl; rfl; (focus ((repeat (first | exact RLn.by (by assumption) | exact RLn.sl (by assumption) | exact RLn.en (by assumption) | exact RLn.hd | exact RLn.hdw (by omega) | exact RLn.slw (by assumption) (by omega) | exact RLn.byw (by assumption) (by omega) | exact RLn.enw (by assumption) (by omega) | apply RLn.tl)); first | done | fail)); omega)
    | ((with_reducible apply y_ixg); rfl; rfl; (focus ((repeat (first | exact RLn.by (by assumption) | exact RLn.sl (by assumption) | exact RLn.en (by assumption) | exact RLn.hd | exact RLn.hdw (by omega) | exact RLn.slw (by assumption) (by omega) | exact RLn.byw (by assumption) (by omega) | exact RLn.enw (by assumption) (by omega) | apply RLn.tl)); first | done | fail)); omega)
    | ((with_reducible apply y_ixgp); rfl; rfl; (focus ((repeat (first | exact RLn.by (by assumption) | exact RLn.sl (by assumption) | exact RLn.en (by assumption) | exact RLn.hd | exact RLn.hdw (by omega) | exact RLn.slw (by assumption) (by omega) | exact RLn.byw (by assumption) (by omega) | exact RLn.enw (by assumption) (by omega) | apply RLn.tl)); first | done | fail)); omega)
    | ((with_reducible apply y_ixgm); rfl; rfl; (focus ((repeat (first | exact RLn.by (by assumption) | exact RLn.sl (by assumption) | exact RLn.en (by assumption) | exact RLn.hd | exact RLn.hdw (by omega) | exact RLn.slw (by assumption) (by omega) | exact RLn.byw (by assumption) (by omega) | exact RLn.enw (by assumption) (by omega) | apply RLn.tl)); first | done | fail)); omega)
    | ((with_reducible (first | apply y_add | apply y_sub | apply y_mul | apply y_slF | apply y_slT)); rfl; rfl; omega)
    | ((with_reducible apply y_index); rfl; rfl; omega)
    | ((with_reducible apply y_quo); rfl; omega)
    | ((with_reducible apply y_slB); rfl; rfl; rfl; omega)
    | ((with_reducible apply y_st); rfl; (focus ((repeat (first | assumption | exact RBy.hd | exact RBy.ro rfl (by decide) | exact RBy.nil | apply RBy.tl)); first | done | fail)))
    | ((with_reducible (first | apply y_eqb | apply y_neb | apply y_gtb | apply y_ltb)) <;> rfl)
    | ((with_reducible apply y_seqs); rfl; rfl; with_reducible rfl)
    | ((with_reducible apply y_snes); rfl; rfl; with_reducible rfl)
    | ((with_reducible (first | apply y_seq | apply y_sne | apply y_slt | apply y_sle | apply y_sgt | apply y_sge | apply y_b2i | apply y_i2b | apply y_ext)) <;> rfl)
    | ((with_reducible apply y_sadd); rfl; rfl; first | omega | (simp only [List.length_cons, List.length_nil]; omega))
    | ((with_reducible apply y_shl8); rfl; omega) | ((with_reducible apply y_or8); rfl; rfl; omega; omega)
    | ((with_reducible (first | apply y_neg)); rfl; omega)
    | ((with_reducible apply y_rem); rfl; rfl; omega)
    | ((with_reducible apply y_eqls); rfl; rfl; with_reducible rfl)
    | ((with_reducible apply y_nels); rfl; rfl; with_reducible rfl)
    | ((with_reducible (first | apply y_beq | apply y_bne)) <;> rfl)
    | ((with_reducible (first | apply y_lss | apply y_leq | apply y_gtr | apply y_geq | apply y_eql | apply y_neq)) <;> rfl)
    | ((with_reducible apply y_cv); rfl; omega)
    | ((with_reducible apply y_cvu); rfl; omega)
    | ((with_reducible apply y_conv) <;> rfl)
    | ((with_reducible apply y_bld); rfl; rfl)
    | ((with_reducible apply y_mkf); rfl)
    | ((with_reducible apply y_eqfn0); rfl)
    | ((with_reducible apply y_eqfn); rfl)
    | fail)))
  | with_reducible (first | apply s_seq | apply s_reg | apply s_nil | apply s_next | apply s_block | apply s_exit | apply s_ret | apply s_skip | apply s_then_exit | apply s_then_ret | apply s_blk_hit | apply s_blk_ret | apply s_blk_normal | apply s_nopan)
  | ((with_reducible apply s_blk_miss); rfl)
  | ((with_reducible apply s_condT); rfl)
  | ((with_reducible apply s_condF); rfl)
  | ((with_reducible apply s_gL); apply s_sk; rfl; rfl)
  | ((with_reducible apply s_gL); apply s_gst; first
    | refine s_store rfl rfl (by exact at_) (by exact rfl) rfl ?_
    | refine s_store0 rfl rfl (by exact at_) (by exact rfl) rfl ?_
    | refine s_storeW rfl rfl (by exact at_) (by exact rfl) rfl rfl ?_
    | refine s_storeA rfl rfl (by exact at_) (by exact rfl) rfl rfl ?_
    | fail)
  | fail)))
  exact kk.out) : J := h ⟨h'⟩
theorem rby {w0 : World} {H : List Ck} {a : Option Addr} {c : Nat} {xs : List UInt8} (h : RBy w0 H a c xs := by (repeat (first | assumption | exact RBy.hd | exact RBy.ro rfl (by decide) | exact RBy.nil | apply RBy.tl)); first | done | fail) : RBy w0 H a c xs := h
theorem rsl {α : Type} {_i : Cel α} {w0 : World} {H : List Ck} {a : Option Addr} {c : Nat} {xs : List α} (h : RSl w0 H a c xs := by (repeat (first | assumption | exact RSl.hd | exact RBy.sl' (by assumption) | exact REn.sl' (by assumption) | exact RSl.nil | apply RSl.tl)); first | done | fail) : RSl w0 H a c xs := h
end Go.Sx
namespace Go.Sx
open Go

theorem Dis.perm {l l' : List (Option Nat)} (h : Dis l) (hp : l.Perm l') : Dis l' :=
  (hp.pairwise_iff (fun h i a b => h i b a)).1 h
theorem Dis.cons {x : Option Nat} {l : List (Option Nat)} (h : Dis l) (hx : ∀ i, x = some i → some i ∉ l) : Dis (x :: l) :=
  List.pairwise_cons.2 ⟨fun y hy i h1 h2 => hx i h1 (by rw [← h2]; exact hy), h⟩
theorem Dis.tail {x : Option Nat} {l : List (Option Nat)} (h : Dis (x :: l)) : Dis l := (List.pairwise_cons.1 h).2
theorem Dis.head {x : Option Nat} {l : List (Option Nat)} (h : Dis (x :: l)) {i : Nat} (hx : x = some i) : some i ∉ l := fun hm => (List.pairwise_cons.1 h).1 _ hm i hx rfl
end Go.Sx
namespace Go.Sx
open Go

theorem mem_perm {c : Ck} {L : List Ck} (h : c ∈ L) : ∃ R, L.Perm (c :: R) := by
  obtain ⟨s, t, rfl⟩ := List.append_of_mem h
  exact ⟨s ++ t, List.perm_middle⟩
theorem Ent.mem {c : Ck} {L H : List Ck} (h : c ∈ L) : Ent (L ++ H) [c] := by
  obtain ⟨R, hp⟩ := mem_perm h
  exact (Ent.app (Ent.perm hp)).trans (Ent.head (Ent.nil))
theorem Ent.mem' {c : Ck} {L H : List Ck} (h : c ∈ L) : Ent (Ck.star L :: H) [c] := Ent.open (Ent.mem h)
/-- Slices of one's own whose blocks are apart are pieces side by side. -/
theorem satS_dis {w : World} {E sz : Nat} : ∀ (L : List (Option Addr × Nat × Nat × List Value)) (S : Nat → Prop), (∀ p, p ∈ L → Own w 0 E sz p.1 p.2.1 p.2.2.1 p.2.2.2 ∧ ∀ i, blk p.1 = some i → S i) → Dis (L.map fun p => blk p.1) →
    SatS (L.map fun p => .own E sz p.1 p.2.1 p.2.2.1 p.2.2.2) w S
  | [], _, _, _ => trivial
  | p :: L, S, h, hd => by
    have hp := h p (by simp)
    simp only [List.map_cons] at hd
    refine ⟨fun i => blk p.1 = some i, fun i hi => hp.2 i hi, ⟨hp.1, fun ad e => by rw [e]; rfl⟩, satS_dis L _ (fun q hq => ⟨(h q (by simp [hq])).1, fun i hi => ⟨(h q (by simp [hq])).2 i hi, fun hj => ?_⟩⟩) hd.tail⟩
    exact hd.head hj (List.mem_map.2 ⟨q, hq, hi⟩)
section
variable (T U : TypeId)
/-- The pieces of entries' keys and values. -/
def oKV (es : List KV) : List Ck := es.flatMap fun e => [ol U e.ka e.kc e.k, ol U e.va e.vc e.v]
/-- A list of entries of one's own, with their keys and values. -/
def oE (a : Option Addr) (c : Nat) (es : List KV) : Ck := .star (ol T a c es :: oKV U es)
variable {T U}
theorem oKV_app (es fs : List KV) : oKV U (es ++ fs) = oKV U es ++ oKV U fs := by simp [oKV]
theorem oKV_one (e : KV) : oKV U [e] = [ol U e.ka e.kc e.k, ol U e.va e.vc e.v] := rfl
theorem oKV_key {es : List KV} {e : KV} (h : e ∈ es) : ol U e.ka e.kc e.k ∈ oKV U es := List.mem_flatMap.2 ⟨e, h, by simp⟩
theorem oKV_val {es : List KV} {e : KV} (h : e ∈ es) : ol U e.va e.vc e.v ∈ oKV U es := List.mem_flatMap.2 ⟨e, h, by simp⟩
/-- One entry more. -/
theorem Ent.kv1 {es : List KV} {e : KV} {H R1 R2 R3 H' : List Ck} (h1 : Rm (.star (oKV U es)) H R1) (h2 : Rm (ol U e.ka e.kc e.k) R1 R2) (h3 : Rm (ol U e.va e.vc e.v) R2 R3) (h : Ent R3 H') : Ent H (.star (oKV U (es ++ [e])) :: H') := by
  refine ((Ent.perm h1.out).trans (Ent.head ((Ent.perm h2.out).trans (Ent.head ((Ent.perm h3.out).trans (Ent.head h)))))).trans ?_
  rw [oKV_app, oKV_one]
  exact Ent.more (K := [ol U e.ka e.kc e.k, ol U e.va e.vc e.v])
theorem Ent.kv0 {H H' : List Ck} (h : Ent H H') : Ent H (.star (oKV U []) :: H') := h.trans Ent.star0
theorem Ent.oe {a : Option Addr} {c : Nat} {es : List KV} {H R1 R2 H' : List Ck} (h1 : Rm (ol T a c es) H R1) (h2 : Rm (.star (oKV U es)) R1 R2) (h : Ent R2 H') : Ent H (Sx.oE T U a c es :: H') := by
  refine ((Ent.perm h1.out).trans (Ent.head ((Ent.perm h2.out).trans (Ent.head h)))).trans ?_
  refine (Ent.head (Ent.open Ent.refl)).trans ?_
  exact Ent.star Ent.refl
variable {w0 : World} {H : List Ck} {a : Option Addr} {c : Nat}
theorem REn.oE {es : List KV} : REn w0 (Sx.oE T U a c es :: H) a c es := by
  refine REn.mk (RSl.ent RSl.hd (Ent.mem' (c := ol T a c es) (by simp))) fun e he => ⟨RBy.ent RBy.hd (Ent.mem' (c := ol U e.ka e.kc e.k) (by simp [oKV_key he])), RBy.ent RBy.hd (Ent.mem' (c := ol U e.va e.vc e.v) (by simp [oKV_val he]))⟩
/-- The same of a spine and the pieces, beside one another. -/
theorem REn.sp {es : List KV} (h1 : RSl w0 H a c es) (h2 : ∀ p, p ∈ oKV U es → Ent H [p]) : REn w0 H a c es :=
  REn.mk h1 fun e he => ⟨RBy.ent RBy.hd (h2 (ol U e.ka e.kc e.k) (oKV_key he)), RBy.ent RBy.hd (h2 (ol U e.va e.vc e.v) (oKV_val he))⟩
/-- The elder words for the same thing. -/
theorem OwE.sat {w w' : World} {es : List KV} (ho : OwE w' w.heap.size T U a c es) (h : Sat w0 H w) (he : Ex w w') : Sat w0 (Sx.oE T U a c es :: H) w' := by
  refine h.new he (fun i => w.heap.size ≤ i ∧ i < w'.heap.size) (fun i hi => hi) ?_
  have hdj := ho.dj
  refine ⟨fun i => blk a = some i, fun i hi => ho.bla hi, ⟨by show Own _ _ _ _ _ _ _ _; rw [flat_kv]; exact ho.sl.mono (Nat.zero_le _), fun ad e => by rw [e]; rfl⟩, ?_⟩
  have key := satS_dis (w := w') (E := U) (sz := 1) (es.flatMap fun e => [(e.ka, e.k.length, e.kc, flat e.k), (e.va, e.v.length, e.vc, flat e.v)]) (fun b => (w.heap.size ≤ b ∧ b < w'.heap.size) ∧ ¬ blk a = some b) ?_ ?_
  · have e : (es.flatMap fun e => [(e.ka, e.k.length, e.kc, flat e.k), (e.va, e.v.length, e.vc, flat e.v)]).map (fun p => Ck.own U 1 p.1 p.2.1 p.2.2.1 p.2.2.2) = oKV U es := by
      simp [oKV, List.map_flatMap]
      rfl
    rw [e] at key
    exact key
  · intro p hp
    obtain ⟨e, he', hp⟩ := List.mem_flatMap.1 hp
    have hel := ho.el e he'
    simp only [List.mem_cons, List.not_mem_nil, or_false] at hp
    have hmk : some 0 = some 0 := rfl
    rcases hp with rfl | rfl
    · exact ⟨by show Own _ _ _ _ _ _ _ _; simp only [flat_bs]; exact Own.mono hel.1 (Nat.zero_le _), fun i hi => ⟨OwB.bl hel.1 hi, fun hj => hdj.head hj (List.mem_flatMap.2 ⟨e, he', by simp [← hi]⟩)⟩⟩
    · exact ⟨by show Own _ _ _ _ _ _ _ _; simp only [flat_bs]; exact Own.mono hel.2 (Nat.zero_le _), fun i hi => ⟨OwB.bl hel.2 hi, fun hj => hdj.head hj (List.mem_flatMap.2 ⟨e, he', by simp [← hi]⟩)⟩⟩
  · have e : (es.flatMap fun e => [(e.ka, e.k.length, e.kc, flat e.k), (e.va, e.v.length, e.vc, flat e.v)]).map (fun p => blk p.1) = bks es := by
      simp [bks, List.map_flatMap]
    rw [e]
    exact hdj.tail
theorem OwB.sat {w w' : World} {xs : Bs} (ho : OwB w' w.heap.size U a c xs) (h : Sat w0 H w) (he : Ex w w') : Sat w0 (ol U a c xs :: H) w' := by
  have := Own.sat (H := H) (w0 := w0) ho h he
  rw [← flat_bs] at this
  exact this
end
end Go.Sx
namespace Go.Sx
open Go
section
variable {α : Type}
/-- ys laid over xs from p on. -/
def putL (xs : List α) (p : Nat) (ys : List α) : List α := xs.take p ++ ys ++ xs.drop (p + ys.length)
theorem putL_len {xs ys : List α} {p : Nat} (hp : p ≤ xs.length) : (putL xs p ys).length = max xs.length (p + ys.length) := by
  simp only [putL, List.length_append, List.length_take, List.length_drop]; omega
theorem putL_mem {xs ys : List α} {p : Nat} {x : α} (h : x ∈ putL xs p ys) : x ∈ xs ∨ x ∈ ys := by
  simp only [putL, List.mem_append] at h
  rcases h with (h | h) | h
  · exact .inl (List.mem_of_mem_take h)
  · exact .inr h
  · exact .inl (List.mem_of_mem_drop h)
variable [Cel α]
theorem flat_app (xs ys : List α) : flat (xs ++ ys) = flat xs ++ flat ys := by simp [flat]
theorem flat_take (xs : List α) (k : Nat) : flat (xs.take k) = (flat xs).take (k * Cel.sz α) := by
  by_cases h : k ≤ xs.length
  · have e := flat_app (xs.take k) (xs.drop k)
    rw [List.take_append_drop] at e
    have hl : (flat (xs.take k)).length = k * Cel.sz α := by rw [flat_length, List.length_take, Nat.min_eq_left h]
    rw [e, ← hl, List.take_left]
  · rw [List.take_of_length_le (by omega), List.take_of_length_le]
    rw [flat_length]
    exact Nat.mul_le_mul_right _ (by omega)
theorem flat_drop (xs : List α) (k : Nat) : flat (xs.drop k) = (flat xs).drop (k * Cel.sz α) := by
  have e := flat_app (xs.take k) (xs.drop k)
  rw [List.take_append_drop, flat_take] at e
  have e2 := List.take_append_drop (k * Cel.sz α) (flat xs)
  exact List.append_cancel_left (e.symm.trans e2.symm)
end
theorem app_room {P : Program} {w : World} {T E : TypeId} {sz by' : Nat} [hT : SlT P T E sz by'] {g c p m c2 : Nat} {ad : Addr} {cur news : List Value} (ty : TypeId) (hg : HB w g E cur) (hsrc : Cells w ad news)
    (hm : news.length = m * sz) (h1 : ∀ v ∈ news, v.oneCell' = true) (hroom : p + m ≤ c) (hfit : p * sz + news.length ≤ cur.length) :
    ∃ w', (Builtin.append_ #[T, T] ty #[.slice (some ⟨g, 0, none⟩) p c, .slice (some ad) m c2]).run P w = .ok (.slice (some ⟨g, 0, none⟩) (p + m) c) w' ∧ HB w' g E (cur.take (p * sz) ++ news ++ cur.drop (p * sz + news.length)) ∧ Ext (fun i => i = g) w w' := by
  obtain ⟨i, z, i1, i2, i3, i4, i5⟩ := hT.info
  have hr := run_append_room (P := P) w T ty E i hT.und i1 g p c cur.toArray hg ad m c2 news (by rw [i3]; exact hm) hsrc h1 hroom (by rw [i3]; simpa using hfit)
  rw [i3] at hr
  exact ⟨_, hr, setRow_heap w g _ _ E (0, 0) hg, ⟨rfl, rfl, rfl, by simp [World.setRow], fun k _ hn => setRow_other w g k _ hn⟩⟩
theorem app_grow {P : Program} {w : World} {T E : TypeId} {sz by' : Nat} [hT : SlT P T E sz by'] {B : Nat} {a : Option Addr} {ad : Addr} {k p c m c2 : Nat} {xs news : List Value} (ty : TypeId) (hsz : 0 < sz)
    (hown : Own w B E sz a k c xs) (hp : p ≤ k) (hsrc : Cells w ad news) (hm : news.length = m * sz) (h1 : ∀ v ∈ news, v.oneCell' = true)
    (hby : (p + m) * by' ≤ 140737488355328) (hle : p + m ≤ maxLen) (hc : c < p + m) :
    ∃ a' c' w', (Builtin.append_ #[T, T] ty #[.slice a p c, .slice (some ad) m c2]).run P w = .ok (.slice a' (p + m) c') w' ∧ Own w' w.heap.size E sz a' (p + m) c' (xs.take (p * sz) ++ news) ∧ Ex w w' := by
  obtain ⟨i, z, i1, i2, i3, i4, i5⟩ := hT.info
  have shape : ∀ {v' : Value} {w' : World} {ys : List Value}, w'.ownsRow w.heap.size E sz v' (p + m) ys → ∃ a' c', v' = .slice a' (p + m) c' := by
    intro v' w' ys r2
    rcases r2.2 with ⟨h, h0⟩ | ⟨g, cap, cur, h, _⟩
    · rw [h0]; exact ⟨none, 0, h⟩
    · exact ⟨_, _, h⟩
  rcases hown.open with ⟨rfl, rfl, rfl, rfl⟩ | ⟨g, rest, rfl, hb, hg, h2, h3, h4⟩
  · obtain rfl : p = 0 := by omega
    obtain ⟨v', w', r1, r2, r3, r4⟩ := run_append_own (P := P) w w.heap.size T ty E i z sz by' hT.und i1 i2 i3 i4 i5 hsz (.slice none 0 0) 0 [] (World.ownsRow_nil w w.heap.size E sz) ad m c2 news hm hsrc h1 hle hby (Nat.le_refl _)
    obtain ⟨a', c', rfl⟩ := shape r2
    have e : ([] : List Value).take (0 * sz) ++ news = [] ++ news := by simp
    exact ⟨a', c', w', r1, by rw [e]; exact Own.of_row r2, (Ext.of_grown r3).mono (fun i _ h => by simp [Value.ownBlock] at h)⟩
  · have hl := hown.len
    have hlt : (xs.take (p * sz)).length = p * sz := by
      rw [List.length_take, hl]
      exact Nat.min_eq_left (Nat.mul_le_mul_right _ hp)
    obtain ⟨v', w', r1, r2, r3⟩ := run_append_arg_grows (P := P) w T ty E i z sz by' hT.und i1 i2 i3 i4 i5 hsz ⟨g, 0, none⟩ p c (xs.take (p * sz)) hlt (fun j u hj => hown.cells j u (by
      rw [List.getElem?_take] at hj
      split at hj
      · exact hj
      · cases hj)) ad m c2 news hm hsrc hc hle hby
    obtain ⟨a', c', rfl⟩ := shape r2
    exact ⟨a', c', w', r1, Own.of_row r2, (Ext.of_grown r3).mono (fun i _ h => by cases h)⟩
section
variable {M : Md} {P : Program} {n : Nat} {ds : Dx} {ops : Array Oper} {Q : Exit → Act → World → Prop} {rest : Tr} {l : List (Nat × Value)} {w0 : World} {H : List Ck} {b : Bool} {ty : TypeId} {pos : String} {af : Array Edge} {g : Option (Nat × Bool)}
variable {α : Type} [Cel α]
/-- append(s, x...), s the first p of a list of one's own: in its place, or elsewhere. -/
theorem s_appP {d : Nat} {T E : TypeId} {sz by' : Nat} [hT : SlT P T E sz by'] {s x : Operand} {a a2 : Option Addr} {c c2 p m : Nat} {xs ys : List α} {H' : List Ck}
    (hin : p + ys.length ≤ c → SL M P n ds ops Q rest ((d, .slice a (p + ys.length) c) :: l) w0 H') (hout : ∀ a' c', SL M P n ds ops Q rest ((d, .slice a' (p + ys.length) c') :: l) w0 (ol E a' c' (xs.take p ++ ys) :: H))
    (hs : ev l s = some (.slice a p c) := by exact rfl) (hx : ev l x = some (.slice a2 m c2) := by exact rfl) (hsrc : RSl w0 H a2 c2 ys := by exact rsl) (hm : m = ys.length := by first | exact rfl | omega | simp) (hne : 0 < ys.length := by first | exact Nat.one_pos | omega | simp)
    (hA : At (ol E a c xs) (ol E a c (putL xs p ys)) H H' := by exact at_) (hp : p ≤ xs.length := by omega) (hby : (p + ys.length) * by' ≤ 140737488355328 := by first | omega | (simp only [List.length_append, List.length_cons, List.length_nil, List.length_map, List.length_take, List.length_drop, List.length_replicate]; omega))
    (hb : M.act b = true := by exact rfl) (hg : gOk ops l g = true := by exact rfl) (hd : Nat.blt d n = true := by exact rfl) (hz : sz = Cel.sz α := by exact rfl) (hy1 : Nat.ble 1 by' = true := by exact rfl) (hk : Chk M H' := by intros; first | exact chk_seq | exact chk_held (by exact entq) | exact chk_held (by exact ent)) (hk' : ∀ a' c', Chk M (ol E a' c' (xs.take p ++ ys) :: H) := by intros; first | exact chk_seq | exact chk_held (by exact entq) | exact chk_held (by exact ent)) :
    SL M P n ds ops Q (.one b ⟨some d, .call { callee := .builtin .append, args := #[s, x], argTypes := #[T, T] }, ty, pos, af, g⟩ rest) l w0 H := .mk fun w hw => by
  subst hz
  subst hm
  have h1 := Nat.le_of_ble_eq_true hy1
  have h2 := Nat.le_mul_of_pos_right (p + ys.length) h1
  have hS := (hsrc w hw).src
  cases a2 with
  | none =>
    have := hS.1 rfl
    have hl := congrArg List.length this
    rw [flat_length] at hl
    rcases Nat.mul_eq_zero.1 hl with h | h
    · omega
    · have := Cel.pos (α := α); omega
  | some ad =>
    have ho := Sat.ownOf hA hw
    have hpz : p * Cel.sz α ≤ xs.length * Cel.sz α := Nat.mul_le_mul_right _ hp
    by_cases hc : p + ys.length ≤ c
    · rcases ho.open with ⟨h0, _, h0', _⟩ | ⟨k, re, e1, e2, e3, e4, e5, e6⟩
      · omega
      · subst e1
        have hle : (p + ys.length) * Cel.sz α ≤ c * Cel.sz α := Nat.mul_le_mul_right _ hc
        rw [Nat.add_mul] at hle
        have hfl := flat_length xs
        have hyl := flat_length ys
        obtain ⟨w', r1, r2, r3⟩ := app_room (P := P) (T := T) (c2 := c2) (p := p) (c := c) ty e3 (hS.2 ad rfl) (flat_length ys) (flat_oneC ys) hc (by rw [List.length_append]; omega)
        have hpl := putL_len (ys := ys) hp
        have hB : HB w' k E (flat (putL xs p ys) ++ re.drop (p * Cel.sz α + (flat ys).length - (flat xs).length)) := by
          have e : (flat xs ++ re).take (p * Cel.sz α) ++ flat ys ++ (flat xs ++ re).drop (p * Cel.sz α + (flat ys).length) = flat (putL xs p ys) ++ re.drop (p * Cel.sz α + (flat ys).length - (flat xs).length) := by
            rw [putL, flat_app, flat_app, flat_take, flat_drop, List.take_append_of_le_length (by omega), List.drop_append, Nat.add_mul, ← hyl, List.append_assoc, List.append_assoc, List.append_assoc]
          rw [← e]
          exact r2
        have hO : Own w' w0.heap.size E (Cel.sz α) (some ⟨k, 0, none⟩) (putL xs p ys).length c (flat (putL xs p ys)) := by
          refine Own.mk' e2 hB (flat_length _) (by rw [hpl]; omega) e5 ?_
          rw [flat_length, hpl, List.length_drop]
          rw [hfl, hyl]
          rw [hfl] at e6
          rcases Nat.le_total xs.length (p + ys.length) with h | h
          · rw [Nat.max_eq_right h, Nat.add_mul]
            have := Nat.mul_le_mul_right (Cel.sz α) h
            rw [Nat.add_mul] at this
            omega
          · rw [Nat.max_eq_left h]
            have := Nat.mul_le_mul_right (Cel.sz α) h
            rw [Nat.add_mul] at this
            omega
        have hw' := hw.own hA hO (r3.mono fun i _ e => by rw [e]; rfl) (fun ad' e => by cases e; exact .inl rfl)
        exact l_e (Md.any hb) hg hd (fun ρ hρ => by simp [execOp, resolve, invoke, builtin, hρ _ _ hs, hρ _ _ hx, r1]) (hk.out hw') ((hin hc).out w' hw')
    · obtain ⟨a', c', w', r1, r2, r3⟩ := app_grow (P := P) (T := T) (c2 := c2) (p := p) ty (Cel.pos (α := α)) ho hp (hS.2 ad rfl) (flat_length ys) (flat_oneC ys) hby (by simp only [maxLen]; omega) (by omega)
      have e : (flat xs).take (p * Cel.sz α) ++ flat ys = flat (xs.take p ++ ys) := by rw [flat_app, flat_take]
      rw [e] at r2
      have hl : (xs.take p ++ ys).length = p + ys.length := by rw [List.length_append, List.length_take, Nat.min_eq_left hp]
      have hw' : Sat w0 (ol E a' c' (xs.take p ++ ys) :: H) w' := Own.sat (by rw [hl]; exact r2) hw r3
      exact l_e (Md.any hb) hg hd (fun ρ hρ => by simp [execOp, resolve, invoke, builtin, hρ _ _ hs, hρ _ _ hx, r1]) ((hk' a' c').out hw') ((hout a' c').out w' hw')
end

/-! ### Families -/
/-- A thing that is a list of one's own. -/
class Row (β : Type) (α : outParam Type) where
  a : β → Option Addr
  c : β → Nat
  xs : β → List α
instance : Row SB UInt8 := ⟨SB.a, SB.c, SB.xs⟩
/-- A slice of entries. -/
structure SE where
  a : Option Addr
  c : Nat
  xs : List KV
@[reducible] def SE.val (s : SE) : Value := .slice s.a s.xs.length s.c
instance : Cel SE := ⟨1, fun x => [x.val], fun _ => rfl, fun _ => rfl, Nat.one_pos⟩
instance : Row SE KV := ⟨SE.a, SE.c, SE.xs⟩
section
variable {α β : Type} [Cel α] [Row β α] {E : TypeId}
@[reducible] def Row.ck (E : TypeId) (s : β) : Ck := ol E (Row.a s) (Row.c s) (Row.xs s)
/-- Lists of one's own, side by side. -/
def fam (E : TypeId) (L : List β) : Ck := .star (L.map (Row.ck E))
variable {L K H : List Ck} {F G : List β} {s : β}
theorem Ent.both {A B : List Ck} (h : A.Perm B) : Ent (.star A :: H) (.star B :: H) := Ent.open (Ent.star (Ent.perm (h.append_right H)))
theorem fam_perm (h : F.Perm G) : Ent (fam E F :: H) (fam E G :: H) := Ent.both (h.map _)
theorem fam_cons : Ent (fam E (s :: F) :: H) (Row.ck E s :: fam E F :: H) := Ent.open (Ent.head (Ent.star Ent.refl))
theorem fam_cons' : Ent (Row.ck E s :: fam E F :: H) (fam E (s :: F) :: H) := Ent.star (Ent.head (Ent.open Ent.refl))
theorem fam_nil : Ent H (fam E ([] : List β) :: H) := Ent.star0
theorem fam_app : Ent (fam E F :: fam E G :: H) (fam E (F ++ G) :: H) := Ent.open (Ent.star (by
  rw [List.map_append, List.append_assoc]
  exact (Ent.perm (List.perm_append_comm (l₁ := F.map (Row.ck E)) (l₂ := fam E G :: H))).trans (((Ent.open Ent.refl : Ent (fam E G :: (H ++ F.map (Row.ck E))) _)).trans (Ent.perm (by
    rw [← List.append_assoc]
    exact List.perm_append_comm))) |>.trans (Ent.perm (List.Perm.refl _))))
/-- The first of a family, by itself. -/
theorem Ent.famC {R : List Ck} (h : Rm (fam E (s :: F)) H R) : Ent H (Row.ck E s :: fam E F :: R) := (Ent.perm h.out).trans fam_cons
/-- A family takes one more in. -/
theorem Ent.famS {R1 R2 H' : List Ck} (h1 : Rm (fam E F) H R1) (h2 : Rm (Row.ck E s) R1 R2) (h : Ent R2 H') : Ent H (fam E (F ++ [s]) :: H') := by
  have := Ent.snoc1 (L := F.map (Row.ck E)) h1 h2 h
  rw [fam, List.map_append]
  exact this
theorem perm_erase {β : Type} : ∀ {F : List β} {i : Nat} {s : β}, F[i]? = some s → F.Perm (s :: F.eraseIdx i)
  | [], i, s, h => by simp at h
  | x :: r, 0, s, h => by simp only [List.getElem?_cons_zero, Option.some.injEq] at h; subst h; exact List.Perm.refl _
  | x :: r, i + 1, s, h => ((perm_erase (F := r) (by simpa using h)).cons x).trans (List.Perm.swap _ _ _)
theorem fam_mem (h : s ∈ F) : Ent (fam E F :: H) [Row.ck E s] := Ent.mem' (List.mem_map.2 ⟨s, h, rfl⟩)
theorem fam_sl {w0 : World} (h : s ∈ F) : RSl w0 (fam E F :: H) (Row.a s) (Row.c s) (Row.xs s) := RSl.ent RSl.hd (fam_mem h)
theorem fam_by {w0 : World} {F : List SB} {s : SB} (h : s ∈ F) : RBy w0 (fam E F :: H) s.a s.c s.xs := RBy.ent RBy.hd (fam_mem h)
/-- A part of one of a family's lists, all of whose things are good. -/
def Vw (G : α → Prop) (D : List β) (a : Option Addr) (c n : Nat) : Prop := ∃ s, s ∈ D ∧ Row.a s = a ∧ Row.c s = c ∧ n ≤ (Row.xs s).length ∧ ∀ x ∈ Row.xs s, G x
variable {p q : α → Prop} {D D' : List β} {a : Option Addr} {c n : Nat}
omit [Cel α] in
theorem Vw.mono (h : Vw p D a c n) (hD : ∀ s, s ∈ D → s ∈ D') (hG : ∀ x, p x → q x) : Vw q D' a c n :=
  h.imp fun _ ⟨h1, h2, h3, h4, h5⟩ => ⟨hD _ h1, h2, h3, h4, fun x hx => hG x (h5 x hx)⟩
omit [Cel α] in
theorem Vw.put {x y : β} (h : Vw p (x :: D) a c n) (ha : Row.a y = Row.a x) (hc : Row.c y = Row.c x) (hl : (Row.xs x).length ≤ (Row.xs y).length) (hg : ∀ z ∈ Row.xs y, p z) : Vw p (y :: D) a c n := by
  obtain ⟨s, h1, h2, h3, h4, h5⟩ := h
  rcases List.mem_cons.1 h1 with rfl | h1
  · exact ⟨y, List.mem_cons_self .., ha.trans h2, hc.trans h3, Nat.le_trans h4 hl, hg⟩
  · exact ⟨s, List.mem_cons_of_mem _ h1, h2, h3, h4, h5⟩
theorem Vw.sl (h : Vw p D a c n) : ∃ ys : List α, ys.length = n ∧ (∀ y ∈ ys, p y) ∧ ∀ (w0 : World) (H : List Ck), RSl w0 (fam E D :: H) a c ys := by
  obtain ⟨s, h1, rfl, rfl, h4, h5⟩ := h
  exact ⟨(Row.xs s).take n, by rw [List.length_take]; omega, fun y hy => h5 y (List.mem_of_mem_take hy), fun w0 H => (fam_sl h1).take h4⟩
theorem Vw.by {p : UInt8 → Prop} {D : List SB} (h : Vw p D a c n) : ∃ ys : List UInt8, ys.length = n ∧ (∀ y ∈ ys, p y) ∧ ∀ (w0 : World) (H : List Ck), RBy w0 (fam E D :: H) a c ys := by
  obtain ⟨s, h1, rfl, rfl, h4, h5⟩ := h
  exact ⟨s.xs.take n, by rw [List.length_take]; exact Nat.min_eq_left h4, fun y hy => h5 y (List.mem_of_mem_take hy), fun w0 H => (fam_by h1).take h4⟩
end
end Go.Sx
namespace Go.Sx
open Go
section
variable {P : Program} {S : World → Prop} {l : List (Nat × Value)} {d : Option Tmp} {ty : TypeId} {pos : String} {af : Array Edge} {g : Option (Nat × Bool)}
theorem run_sl3 {P : Program} {T E : TypeId} {sz by' : Nat} [hT : SlT P T E sz by'] (w : World) (a : Option Addr) (n c lo hi m : Nat) (vlo : Option Value) {k k' : IntKind} (h1 : lo ≤ hi) (h2 : hi ≤ m) (h3 : m ≤ c)
    (hlo : vlo = none ∧ lo = 0 ∨ ∃ k, vlo = some (.int k (lo : Int))) :
    (Instr.sliceAt T (.slice a n c) vlo (some (.int k (hi : Int))) (some (.int k' (m : Int)))).run P w = .ok (.slice (sl a m lo sz) (hi - lo) (m - lo)) w := by
  obtain ⟨i, z, i1, i2, i3, i4, i5⟩ := hT.info
  have hb : (Instr.sliceBounds true n c vlo (some (.int k (hi : Int))) (some (.int k' (m : Int)))).run P w = .ok (lo, hi, m) w := by
    unfold Instr.sliceBounds
    rcases hlo with ⟨rfl, rfl⟩ | ⟨k, rfl⟩ <;> simp [Instr.sliceBound, asIntOf, h1, h2, h3]
  simp [Instr.sliceAt, Instr.slice, run_underlying hT.und, hb, sizeOf, typeInfo, i1, i3, sl]
theorem sl_0 {a : Option Addr} {c sz : Nat} : sl a c 0 sz = a := by
  unfold sl
  split
  · rfl
  · cases a <;> simp [Addr.add]
theorem y_slU {x hi mx : Operand} {T E : TypeId} {sz by' : Nat} [hT : SlT P T E sz by'] {a : Option Addr} {n c k m : Nat} {kk km : IntKind} (hx : ev l x = some (.slice a n c)) (hhi : ev l hi = some (.int kk (k : Int))) (hm : ev l mx = some (.int km (m : Int))) (hk : k ≤ m ∧ m ≤ c) :
    Y P S ⟨d, .slice T x none (some hi) (some mx), ty, pos, af, g⟩ l (.slice a k m) := .mk fun w _ ρ hρ => by
  have := run_sl3 (P := P) (T := T) w a n c 0 k m none (k := kk) (k' := km) (Nat.zero_le _) hk.1 hk.2 (.inl ⟨rfl, rfl⟩)
  rw [sl_0] at this
  simp [execOp, hρ _ _ hx, hρ _ _ hhi, hρ _ _ hm, this]
theorem y_slV {x lo hi mx : Operand} {T E : TypeId} {sz by' : Nat} [hT : SlT P T E sz by'] {a : Option Addr} {n c j k m : Nat} {kl kk km : IntKind} (hx : ev l x = some (.slice a n c)) (hlo : ev l lo = some (.int kl (j : Int))) (hhi : ev l hi = some (.int kk (k : Int))) (hm : ev l mx = some (.int km (m : Int))) (hk : j ≤ k ∧ k ≤ m ∧ m ≤ c) :
    Y P S ⟨d, .slice T x (some lo) (some hi) (some mx), ty, pos, af, g⟩ l (.slice (sl a m j sz) (k - j) (m - j)) := .mk fun w _ ρ hρ => by
  have := run_sl3 (P := P) (T := T) w a n c j k m (some (.int kl (j : Int))) (k := kk) (k' := km) hk.1 hk.2.1 hk.2.2 (.inr ⟨kl, rfl⟩)
  simp [execOp, hρ _ _ hx, hρ _ _ hlo, hρ _ _ hhi, hρ _ _ hm, this]
theorem y_xorb {x y : Operand} {T U : TypeId} {a b : UInt8} (hx : ev l x = some (bv a)) (hy : ev l y = some (bv b)) :
    Y P S ⟨d, .binOp .xor T x y U, ty, pos, af, g⟩ l (bv (a ^^^ b)) := .mk fun w _ ρ hρ => by
  have h1 := a.toNat_lt
  have h2 := b.toNat_lt
  have h3 := u8_xor_nat a.toNat b.toNat h1 h2
  simp [execOp, hρ _ _ hx, hρ _ _ hy, eqGuard, binOp, Op.intBits, bv, UInt8.toNat_xor]
  first | exact h3 | simpa [bits] using h3
end
theorem s_rwC {P : Program} {n : Nat} {ds : Dx} {Q : Exit → Act → World → Prop} {l : List (Nat × Value)} {w0 : World} {H : List Ck} {c : Code} {t : Nat} {v v' : Value} (h : look l t = some v) (e : v = v') (k : SC P n ds c Q ((t, v') :: l) w0 H) : SC P n ds c Q l w0 H := by
  subst e
  refine .mk fun w hs => .mk fun a ha => (k.out w hs).out a ⟨ha.size, ha.defers, fun t' u ht => ?_⟩
  simp only [look] at ht
  by_cases e : t = t'
  · subst e; simp at ht; subst ht; exact ha.has _ _ h
  · have hb : Nat.beq t t' = false := by rw [← Bool.not_eq_true, Nat.beq_eq]; exact e
    rw [hb] at ht
    exact ha.has _ u ht
section
variable {fn : Func} {R : Value → World → Prop} {P : Program} {n : Nat} {l : List (Nat × Value)} {w : World}
end
section
variable {P : Program} {fn : Func} {R : Value → List Ck → Prop} {n : Nat} {l : List (Nat × Value)} {w0 : World} {H H' : List Ck}
end
section
variable {M : Md} {P : Program} {n : Nat} {ds : Dx} {ops : Array Oper} {Q : Exit → Act → World → Prop} {rest : Tr} {l : List (Nat × Value)} {w0 : World} {H : List Ck} {b : Bool} {ty : TypeId} {pos : String} {af : Array Edge} {g : Option (Nat × Bool)}
variable {α : Type} [Cel α]
/-- copy(s, x), s a whole list of one's own. -/
theorem s_copy {d : Nat} {T U E : TypeId} {by' : Nat} [hT : SlT P T E 1 by'] {s x : Operand} {a a2 : Option Addr} {c c2 m k : Nat} {xs ys : List α} {H' : List Ck} (hs : ev l s = some (.slice a k c)) (hx : ev l x = some (.slice a2 m c2))
    (h : SL M P n ds ops Q rest ((d, .int .i64 ((min ys.length xs.length : Nat) : Int)) :: l) w0 H')
    (hsrc : RSl w0 H a2 c2 ys := by exact rsl) (hA : At (ol E a c xs) (ol E a c (ys.take xs.length ++ xs.drop ys.length)) H H' := by exact at_) (hk0 : k = xs.length := by first | exact rfl | omega | simp) (hm : m = ys.length := by first | exact rfl | omega | simp)
    (hb : M.act b = true := by exact rfl) (hg : gOk ops l g = true := by exact rfl) (hd : Nat.blt d n = true := by exact rfl) (hz : Cel.sz α = 1 := by exact rfl) (hk : Chk M H' := by intros; first | exact chk_seq | exact chk_held (by exact entq) | exact chk_held (by exact ent)) :
    SL M P n ds ops Q (.one b ⟨some d, .call { callee := .builtin .copy, args := #[s, x], argTypes := #[T, U] }, ty, pos, af, g⟩ rest) l w0 H := .mk fun w hw => by
  subst hk0
  subst hm
  obtain ⟨i, z, i1, i2, i3, i4, i5⟩ := hT.info
  have hsz1 : (P.info? E).map (·.size) = some 1 := by rw [i1]; simp [i3]
  have hS := hsrc w hw
  have ho := Sat.ownOf hA hw
  have hfx := flat_length xs
  have hfy := flat_length ys
  rw [hz, Nat.mul_one] at hfx hfy
  have hmin : Nat.min ys.length xs.length = min ys.length xs.length := rfl
  by_cases h0 : Nat.min ys.length xs.length = 0
  · have e : ys.take xs.length ++ xs.drop ys.length = xs := by
      rw [hmin] at h0
      rcases (by omega : ys.length = 0 ∨ xs.length = 0) with h | h
      · rw [List.eq_nil_of_length_eq_zero h]; simp
      · rw [List.eq_nil_of_length_eq_zero h]; simp
    have hw' : Sat w0 H' w := by
      rw [e] at hA
      obtain ⟨R, g1, g2⟩ := hA.out
      exact (hw.perm g1).perm g2.symm
    have hrun := run_copy_none (P := P) w T U ty E a a2 xs.length c ys.length c2 hT.und hsz1 h0
    rw [hmin] at h0
    rw [h0] at h
    exact l_e (Md.any hb) hg hd (fun ρ hρ => by simp [execOp, resolve, invoke, builtin, hρ _ _ hs, hρ _ _ hx, hrun, goInt]) (hk.out hw') (h.out w hw')
  · rw [hmin] at h0
    rcases ho.open with ⟨_, h1, _⟩ | ⟨gg, re, rfl, g2, g3, g4, g5, g6⟩
    · omega
    · cases a2 with
      | none => have := hS.nil rfl; have := hS.le; omega
      | some ad =>
        have hcs : (flat (ys.take xs.length)).length = Nat.min ys.length xs.length := by
          rw [flat_length, hz, Nat.mul_one, List.length_take, hmin]; omega
        rw [hz, Nat.mul_one] at g6
        have hrun := run_copy_row (P := P) w T U ty E gg 0 xs.length c ad ys.length c2 (flat xs ++ re).toArray E (flat (ys.take xs.length)) hT.und hsz1 g3 hcs (fun j v hj => hS.cells ad rfl j v (by
          have e := flat_app (ys.take xs.length) (ys.drop xs.length)
          rw [List.take_append_drop] at e
          rw [e, List.getElem?_append_left (List.getElem?_eq_some_iff.1 hj).1]
          exact hj)) (by rw [hcs, hmin, List.size_toArray, List.length_append]; omega) (flat_oneC _)
        have e : ((flat xs ++ re).toArray.toList.take 0 ++ flat (ys.take xs.length) ++ (flat xs ++ re).toArray.toList.drop (0 + (flat (ys.take xs.length)).length)) = flat (ys.take xs.length ++ xs.drop ys.length) ++ re := by
          rw [hcs, hmin, flat_app, List.take_zero, List.nil_append, Nat.zero_add, List.drop_append_of_le_length (by omega), flat_drop, hz, Nat.mul_one, List.append_assoc]
          congr 2
          rcases Nat.le_total ys.length xs.length with h | h
          · rw [Nat.min_eq_left h]
          · rw [Nat.min_eq_right h, List.drop_of_length_le (by omega), List.drop_of_length_le (by omega)]
        rw [e] at hrun
        have hl : (ys.take xs.length ++ xs.drop ys.length).length = xs.length := by simp; omega
        have hB : HB (w.setRow gg (flat (ys.take xs.length ++ xs.drop ys.length) ++ re).toArray) gg E (flat (ys.take xs.length ++ xs.drop ys.length) ++ re) := setRow_heap w gg _ _ E (0, 0) g3
        have hX : Ext (fun i => i = gg) w (w.setRow gg (flat (ys.take xs.length ++ xs.drop ys.length) ++ re).toArray) := ⟨rfl, rfl, rfl, by simp [World.setRow], fun k _ hn => setRow_other w gg k _ hn⟩
        have hO : Own (w.setRow gg (flat (ys.take xs.length ++ xs.drop ys.length) ++ re).toArray) w0.heap.size E (Cel.sz α) (some ⟨gg, 0, none⟩) (ys.take xs.length ++ xs.drop ys.length).length c (flat (ys.take xs.length ++ xs.drop ys.length)) := by
          refine Own.mk' g2 hB (flat_length _) (by rw [hl]; exact g4) g5 ?_
          rw [flat_length, hl, hz, Nat.mul_one, Nat.mul_one]; omega
        have hw' := hw.own hA hO (hX.mono fun i _ e => by rw [e]; rfl) (fun ad' e => by cases e; exact .inl rfl)
        have hv : goInt (flat (ys.take xs.length)).length = .int .i64 ((min ys.length xs.length : Nat) : Int) := by rw [hcs]; rfl
        rw [hv] at hrun
        exact l_e (Md.any hb) hg hd (fun ρ hρ => by simp [execOp, resolve, invoke, builtin, hρ _ _ hs, hρ _ _ hx, hrun]) (hk.out hw') (h.out _ hw')
end
end Go.Sx
namespace Go.Sx
open Go
section
variable {P : Program} {n : Nat} {ds : Dx} {Q : Exit → Act → World → Prop} {l l' : List (Nat × Value)} {w0 : World} {H : List Ck} {M : Md} {ops : Array Oper} {rest : Tr} {b : Bool} {ty : TypeId} {pos : String} {af : Array Edge} {g : Option (Nat × Bool)} {op : Op}
/-- What a guard asks is so; is not so. -/
theorem s_gT {d j dj : Nat} {t t' : Bool} (hg : gd ops l j = some (dj, t')) (h : t' = true)
    (k : SL M P n ds ops Q (.one b ⟨some d, op, ty, pos, af, some (j, t)⟩ rest) ((dj, .bool true) :: l) w0 H) : SL M P n ds ops Q (.one b ⟨some d, op, ty, pos, af, some (j, t)⟩ rest) l w0 H :=
  s_lsp hg (fun _ => k) (fun e => by rw [h] at e; cases e)
theorem s_gF {d j dj : Nat} {t t' : Bool} (hg : gd ops l j = some (dj, t')) (h : t' = false)
    (k : SL M P n ds ops Q (.one b ⟨some d, op, ty, pos, af, some (j, t)⟩ rest) ((dj, .bool false) :: l) w0 H) : SL M P n ds ops Q (.one b ⟨some d, op, ty, pos, af, some (j, t)⟩ rest) l w0 H :=
  s_lsp hg (fun e => by rw [h] at e; cases e) (fun _ => k)
/-- Which way it goes is known. -/
theorem s_cT {c : Operand} {x y : Code} {t : Bool} (hc : ev l c = some (.bool t)) (h : t = true) (k : SC P n ds x Q l w0 H) : SC P n ds (.cond c x y) Q l w0 H := s_cond hc (fun _ => k) (fun e => by rw [h] at e; cases e)
theorem s_cF {c : Operand} {x y : Code} {t : Bool} (hc : ev l c = some (.bool t)) (h : t = false) (k : SC P n ds y Q l w0 H) : SC P n ds (.cond c x y) Q l w0 H := s_cond hc (fun e => by rw [h] at e; cases e) (fun _ => k)
end
end Go.Sx
namespace Go.Sx
open Go Go.Proofs
instance : ElT Tryz.prog 3 Int := ⟨trivial⟩
instance : ZxT Tryz.prog 3 Int 0 := ⟨.int .i64 0, fun _ => by kernel_rfl, rfl⟩
instance : ElT Tryz.prog 5 UInt8 := ⟨trivial⟩
instance : ZxT Tryz.prog 5 UInt8 0 := ⟨.int .u8 0, fun _ => by kernel_rfl, rfl⟩
instance : BuT Tryz.prog 7 [.int .i64 0, .int .i64 0, .bool false, .int .u8 0] [(0, 1), (1, 1), (2, 1), (3, 1)] := ⟨by kernel_rfl⟩
instance : BuT Tryz.prog 8 [.int .i64 0, .int .i64 0, .bool false, .int .u8 0] [(0, 1), (1, 1), (2, 1), (3, 1)] := ⟨by kernel_rfl⟩
instance : BuT Tryz.prog 13 [.string ⟨#[]⟩, .int .u64 0] [(0, 1), (1, 1)] := ⟨by kernel_rfl⟩
instance : BuT Tryz.prog 14 [.string ⟨#[]⟩, .int .u64 0] [(0, 1), (1, 1)] := ⟨by kernel_rfl⟩
instance : BuT Tryz.prog 18 [.pointer none] [(0, 1)] := ⟨by kernel_rfl⟩
instance : BuT Tryz.prog 19 [.pointer none] [(0, 1)] := ⟨by kernel_rfl⟩
instance : ElT Tryz.prog 24 SB := ⟨trivial⟩
instance : ZxT Tryz.prog 24 SB ⟨none, 0, []⟩ := ⟨.slice none 0 0, fun _ => by kernel_rfl, rfl⟩
instance : BuT Tryz.prog 30 [.slice none 0 0, .slice none 0 0] [(0, 1), (1, 1)] := ⟨by kernel_rfl⟩
instance : ElT Tryz.prog 31 KV := ⟨trivial⟩
instance : ZxT Tryz.prog 31 KV ⟨none, 0, [], none, 0, []⟩ := ⟨.agg #[.slice none 0 0, .slice none 0 0], fun _ => by kernel_rfl, rfl⟩
instance : BuT Tryz.prog 31 [.slice none 0 0, .slice none 0 0] [(0, 1), (1, 1)] := ⟨by kernel_rfl⟩
instance : BuT Tryz.prog 34 [.int .u64 0, .int .i64 0, .slice none 0 0, .slice none 0 0, .slice none 0 0] [(0, 1), (1, 1), (2, 1), (3, 1), (4, 1)] := ⟨by kernel_rfl⟩
instance : BuT Tryz.prog 35 [.int .u64 0, .int .i64 0, .slice none 0 0, .slice none 0 0, .slice none 0 0] [(0, 1), (1, 1), (2, 1), (3, 1), (4, 1)] := ⟨by kernel_rfl⟩
instance : BuT Tryz.prog 52 [.slice none 0 0, .slice none 0 0, .bool false] [(0, 1), (1, 1), (2, 1)] := ⟨by kernel_rfl⟩
instance : BuT Tryz.prog 53 [.slice none 0 0, .slice none 0 0, .bool false] [(0, 1), (1, 1), (2, 1)] := ⟨by kernel_rfl⟩
instance : BuT Tryz.prog 63 [.slice none 0 0, .slice none 0 0] [(0, 1), (1, 1)] := ⟨by kernel_rfl⟩
instance : BuT Tryz.prog 64 [.slice none 0 0, .slice none 0 0] [(0, 1), (1, 1)] := ⟨by kernel_rfl⟩
instance : BuT Tryz.prog 68 [.slice none 0 0, .slice none 0 0, .slice none 0 0, .slice none 0 0, .slice none 0 0, .int .i64 0] [(0, 2), (2, 1), (3, 1), (4, 1), (5, 1)] := ⟨by kernel_rfl⟩
instance : BuT Tryz.prog 69 [.slice none 0 0, .slice none 0 0, .slice none 0 0, .slice none 0 0, .slice none 0 0, .int .i64 0] [(0, 2), (2, 1), (3, 1), (4, 1), (5, 1)] := ⟨by kernel_rfl⟩
instance : BuT Tryz.prog 70 [.int .i64 0, .int .i64 0, .slice none 0 0, .slice none 0 0, .slice none 0 0, .slice none 0 0, .slice none 0 0, .bool false] [(0, 1), (1, 1), (2, 1), (3, 1), (4, 1), (5, 3)] := ⟨by kernel_rfl⟩
instance : BuT Tryz.prog 71 [.int .i64 0, .int .i64 0, .slice none 0 0, .slice none 0 0, .slice none 0 0, .slice none 0 0, .slice none 0 0, .bool false] [(0, 1), (1, 1), (2, 1), (3, 1), (4, 1), (5, 3)] := ⟨by kernel_rfl⟩
instance : BuT Tryz.prog 82 [.bool false, .slice none 0 0, .slice none 0 0, .slice none 0 0, .slice none 0 0, .bool false] [(0, 1), (1, 1), (2, 1), (3, 3)] := ⟨by kernel_rfl⟩
instance : BuT Tryz.prog 83 [.bool false, .slice none 0 0, .slice none 0 0, .slice none 0 0, .slice none 0 0, .bool false] [(0, 1), (1, 1), (2, 1), (3, 3)] := ⟨by kernel_rfl⟩
instance : BuT Tryz.prog 90 [.slice none 0 0, .slice none 0 0] [(0, 1), (1, 1)] := ⟨by kernel_rfl⟩
instance : BuT Tryz.prog 91 [.slice none 0 0, .slice none 0 0] [(0, 1), (1, 1)] := ⟨by kernel_rfl⟩
instance : BuT Tryz.prog 95 [.slice none 0 0] [(0, 1)] := ⟨by kernel_rfl⟩
instance : BuT Tryz.prog 96 [.slice none 0 0] [(0, 1)] := ⟨by kernel_rfl⟩
instance : BuT Tryz.prog 98 [.slice none 0 0, .slice none 0 0] [(0, 1), (1, 1)] := ⟨by kernel_rfl⟩
instance : BuT Tryz.prog 99 [.slice none 0 0, .slice none 0 0] [(0, 1), (1, 1)] := ⟨by kernel_rfl⟩
instance : BuT Tryz.prog 121 [.slice none 0 0, .bool false] [(0, 1), (1, 1)] := ⟨by kernel_rfl⟩
instance : BuT Tryz.prog 122 [.slice none 0 0, .bool false] [(0, 1), (1, 1)] := ⟨by kernel_rfl⟩
instance : BuT Tryz.prog 180 [.slice none 0 0, .int .i64 0, .bool false] [(0, 1), (1, 1), (2, 1)] := ⟨by kernel_rfl⟩
instance : BuT Tryz.prog 181 [.slice none 0 0, .int .i64 0, .bool false] [(0, 1), (1, 1), (2, 1)] := ⟨by kernel_rfl⟩
instance : BuT Tryz.prog 189 [.pointer none, .pointer none, .pointer none, .string ⟨#[]⟩] [(0, 1), (1, 1), (2, 1), (3, 1)] := ⟨by kernel_rfl⟩
instance : BuT Tryz.prog 190 [.pointer none, .pointer none, .pointer none, .string ⟨#[]⟩] [(0, 1), (1, 1), (2, 1), (3, 1)] := ⟨by kernel_rfl⟩
instance : BuT Tryz.prog 201 [.int .u64 0, .int .u64 0, .int .u32 0, .int .u8 0, .int .u8 0, .int .u8 0, .int .u8 0, .nilFunc, .pointer none, .int .i32 0, .int .i32 0] [(0, 1), (1, 1), (2, 1), (3, 1), (4, 1), (5, 1), (6, 1), (7, 1), (8, 1), (9, 1), (10, 1)] := ⟨by kernel_rfl⟩
instance : BuT Tryz.prog 202 [.int .u64 0, .int .u64 0, .int .u32 0, .int .u8 0, .int .u8 0, .int .u8 0, .int .u8 0, .nilFunc, .pointer none, .int .i32 0, .int .i32 0] [(0, 1), (1, 1), (2, 1), (3, 1), (4, 1), (5, 1), (6, 1), (7, 1), (8, 1), (9, 1), (10, 1)] := ⟨by kernel_rfl⟩
end Go.Sx
namespace Go.Sx
open Go
theorem Ent.appL {A H H' : List Ck} (h : Ent H H') : Ent (A ++ H) (A ++ H') := by
  induction A with
  | nil => exact h
  | cons a A ih => exact Ent.head ih
section
variable {β : Type} {f : β → List Ck} {F G : List β} {i : Nat} {s : β} {H : List Ck}
theorem er_set : ∀ {F : List β} {i : Nat} {s : β}, (F.set i s).eraseIdx i = F.eraseIdx i
  | [], i, s => by simp
  | x :: r, 0, s => by simp
  | x :: r, i + 1, s => by simp only [List.set_cons_succ, List.eraseIdx_cons_succ, er_set]
theorem st_perm (h : i < F.length) : (F.set i s).Perm (s :: F.eraseIdx i) := by
  have := perm_erase (F := F.set i s) (i := i) (s := s) (by simp [h])
  rwa [er_set] at this
/-- The pieces of a list's things. -/
def stars (f : β → List Ck) (F : List β) : Ck := .star (F.flatMap f)
theorem stars_perm (h : F.Perm G) : Ent (stars f F :: H) (stars f G :: H) := Ent.both (List.Perm.flatMap_right _ h)
theorem stars_cons : Ent (stars f (s :: F) :: H) (f s ++ stars f F :: H) := Ent.open (by
  rw [List.flatMap_cons, List.append_assoc]
  exact Ent.appL (Ent.star Ent.refl))
theorem stars_cons' : Ent (f s ++ stars f F :: H) (stars f (s :: F) :: H) := Ent.star (by
  rw [List.flatMap_cons, List.append_assoc]
  exact Ent.appL (Ent.open Ent.refl))
/-- One thing is taken out. -/
theorem stars_get (h : F[i]? = some s) : Ent (stars f F :: H) (f s ++ stars f (F.eraseIdx i) :: H) := (stars_perm (perm_erase h)).trans stars_cons
/-- One is put into its place. -/
theorem stars_put (h : i < F.length) : Ent (f s ++ stars f (F.eraseIdx i) :: H) (stars f (F.set i s) :: H) := stars_cons'.trans (stars_perm (st_perm h).symm)
theorem stars_snoc : Ent (f s ++ stars f F :: H) (stars f (F ++ [s]) :: H) := stars_cons'.trans (stars_perm (List.perm_append_singleton s F).symm)
theorem stars_nil : Ent H (stars f ([] : List β) :: H) := Ent.star0
theorem stars_mem (h : s ∈ F) : Ent (stars f F :: H) (f s) := by
  obtain ⟨i, hi⟩ := List.getElem?_of_mem h
  have := stars_get (f := f) (H := H) hi
  refine this.trans ?_
  have key : ∀ A K : List Ck, Ent (A ++ K) A := fun A K => by
    induction A with
    | nil => exact Ent.nil
    | cons a A ih => exact Ent.head ih
  exact key _ _
end
/-- Ways that leave a block, joined behind it. -/
theorem c_cutB {P : Program} {n : Nat} {ds : Dx} {Q : Exit → Act → World → Prop} {l : List (Nat × Value)} {w : World} {ι : Type} (I : ι → List (Nat × Value)) (Inv : ι → World → Prop) {c : Code} {id : Nat} {K : Act → World → Prop}
    (h1 : CJ P n ds c (Exit.inBlock id (Exit.then (Mid n ds I Inv) Q)) l w) (h2 : ∀ i w, Inv i w → ∀ a, FrOk n ds (I i) a → K a w) : CJ P n ds c (Exit.inBlock id (Exit.then K Q)) l w := by
  refine .mk fun a ha => ?_
  refine wpIn_mono (h1.out a ha) ?_
  intro e a w h
  cases e with
  | normal =>
    obtain ⟨j, h3, h4⟩ := h
    exact h2 j w h4 a h3
  | exit id' =>
    simp only [Exit.inBlock] at h ⊢
    split
    · rename_i e
      rw [if_pos e] at h
      obtain ⟨j, h3, h4⟩ := h
      exact h2 j w h4 a h3
    · rename_i e
      rw [if_neg e] at h
      exact h
  | ret => exact h
  | panic c => exact h
  | goto _ => exact h
  | outgrown => exact h
theorem s_cutB {P : Program} {n : Nat} {ds : Dx} {Q : Exit → Act → World → Prop} {l : List (Nat × Value)} {w0 : World} {H : List Ck} {ι : Type} (I : ι → List (Nat × Value)) (HI : ι → List Ck) (φ : ι → Prop) {x y : Code} {Q' : Exit → Act → World → Prop} {id : Nat}
    (h1 : SC P n ds x (Exit.inBlock id (Exit.then (Mid n ds I (fun i w => φ i ∧ Sat w0 (HI i) w)) Q)) l w0 H) (h2 : ∀ i, φ i → SC P n ds y Q' (I i) w0 (HI i)) : SC P n ds x (Exit.inBlock id (Exit.then (fun a w => y.wpIn (fR ds.r) 0 P Q' a w) Q)) l w0 H :=
  .mk fun w hs => c_cutB I (fun i w => φ i ∧ Sat w0 (HI i) w) (h1.out w hs) fun i w' hi a ha => ((h2 i hi.1).out w' hi.2).out a ha
end Go.Sx
namespace Go.Sx
open Go
section
variable {P : Program}
theorem run_copy_rowK (w : World) (dT sT ty elem : TypeId) (sz g o dLen dCap : Nat) (a : Addr) (sLen sCap : Nat) (cur : Array Value) (t : TypeId) (cs : List Value)
    (hu : P.underlying dT = some (.slice elem)) (hs : (P.info? elem).map (·.size) = some sz)
    (hg : w.heap[g]? = some (.cells cur t (0, 0))) (hn : cs.length = Nat.min sLen dLen * sz)
    (hsrc : ∀ j v, cs[j]? = some v → w.cell? (a.add j) = some v) (hfit : o + cs.length ≤ cur.size) (h1 : ∀ v ∈ cs, v.oneCell' = true) :
    (Builtin.copy_ #[dT, sT] ty #[.slice (some ⟨g, o, none⟩) dLen dCap, .slice (some a) sLen sCap]).run P w =
      .ok (goInt (Nat.min sLen dLen)) (w.setRow g (cur.toList.take o ++ cs ++ cur.toList.drop (o + cs.length)).toArray) := by
  have hl := run_loadCells_list (P := P) w a cs hsrc
  have hst := run_storeCells_at P g o t cs 0 cur w hg (by simpa using hfit) h1
  cases hq : P.info? elem with
  | none => simp [hq] at hs
  | some i =>
    have hi : i.size = sz := by simpa [hq] using hs
    rw [hn] at hl
    simp [Builtin.copy_, run_underlying hu, Builtin.lenOf, Builtin.firstCells, sizeOf, typeInfo, hq, hi, hl, hst]
theorem run_copy_noneK (w : World) (dT sT ty elem : TypeId) (sz : Nat) (d a : Option Addr) (dLen dCap sLen sCap : Nat) (hu : P.underlying dT = some (.slice elem)) (hs : (P.info? elem).map (·.size) = some sz) (hn : Nat.min sLen dLen = 0) :
    (Builtin.copy_ #[dT, sT] ty #[.slice d dLen dCap, .slice a sLen sCap]).run P w = .ok (goInt 0) w := by
  cases hq : P.info? elem with
  | none => simp [hq] at hs
  | some i =>
    have hl : ∀ (x : Addr), (loadCells x 0).run P w = .ok #[] w := fun x => by simpa using run_loadCells_list (P := P) w x [] (by simp)
    cases d <;> cases a <;> simp [Builtin.copy_, run_underlying hu, Builtin.lenOf, Builtin.firstCells, sizeOf, typeInfo, hq, hn, storeCells, hl]
end
theorem info_sz {P : Program} {T E : TypeId} {sz by' : Nat} [hT : SlT P T E sz by'] : (P.info? E).map (·.size) = some sz := by
  obtain ⟨i, z, i1, i2, i3, i4, i5⟩ := hT.info
  rw [i1]; simp [i3]
/-- It acts: a value that nobody wants. -/
theorem l_v0 {M : Mode} {P : Program} {n : Nat} {ds : Dx} {ops : Array Oper} {Q : Exit → Act → World → Prop} {b : Bool} {rest : Tr} {l : List (Nat × Value)} {w : World}
    {op : Op} {ty : TypeId} {pos : String} {af : Array Edge} {g : Option (Nat × Bool)} {v : Value} {w' : World} (hb : (M.any || !b) = true) (hg : gOk ops l g = true)
    (he : ∀ ρ, Agr l ρ → (execOp ρ ⟨none, op, ty, pos, af, g⟩).run P w = .ok (.value v) w') (hc : M.chk w')
    (h : LJ M P n ds ops Q rest l w') : LJ M P n ds ops Q (.one b ⟨none, op, ty, pos, af, g⟩ rest) l w := by
  refine .mk fun a ha => ?_
  unfold WL
  rw [if_pos (gOk_spec hg ha)]
  refine .inr ⟨by simpa using hb, ?_⟩
  exact op_of (he _ ha.agr) (fun _ _ e => by cases e) (fun _ _ e => by cases e) ⟨hc, h.out _ ha⟩
section
variable {α : Type} [Cel α]
theorem putL_flat (xs ys : List α) (p : Nat) (re : List Value) (hp : p ≤ xs.length) :
    (flat xs ++ re).take (p * Cel.sz α) ++ flat ys ++ (flat xs ++ re).drop (p * Cel.sz α + (flat ys).length) = flat (putL xs p ys) ++ re.drop (p * Cel.sz α + (flat ys).length - (flat xs).length) := by
  have hpz : p * Cel.sz α ≤ xs.length * Cel.sz α := Nat.mul_le_mul_right _ hp
  have hfl := flat_length xs
  have hyl := flat_length ys
  rw [putL, flat_app, flat_app, flat_take, flat_drop, List.take_append_of_le_length (by omega), List.drop_append, Nat.add_mul, ← hyl, List.append_assoc, List.append_assoc, List.append_assoc]
/-- A list of one's own that is laid over from p on. -/
theorem own_put {w' : World} {B E c k p : Nat} {xs ys : List α} {re : List Value} (e2 : B ≤ k) (e4 : xs.length ≤ c) (e5 : c ≤ maxLen) (e6 : c * Cel.sz α ≤ (flat xs).length + re.length) (hp : p ≤ xs.length) (hc : p + ys.length ≤ c)
    (r2 : HB w' k E ((flat xs ++ re).take (p * Cel.sz α) ++ flat ys ++ (flat xs ++ re).drop (p * Cel.sz α + (flat ys).length))) : Own w' B E (Cel.sz α) (some ⟨k, 0, none⟩) (putL xs p ys).length c (flat (putL xs p ys)) := by
  rw [putL_flat xs ys p re hp] at r2
  have hpl := putL_len (ys := ys) hp
  have hfl := flat_length xs
  have hyl := flat_length ys
  refine Own.mk' e2 r2 (flat_length _) (by rw [hpl]; omega) e5 ?_
  rw [flat_length, hpl, List.length_drop, hfl, hyl]
  rw [hfl] at e6
  have h3 : (p + ys.length) * Cel.sz α ≤ c * Cel.sz α := Nat.mul_le_mul_right _ hc
  rcases Nat.le_total xs.length (p + ys.length) with h | h
  · rw [Nat.max_eq_right h, Nat.add_mul]
    have := Nat.mul_le_mul_right (Cel.sz α) h
    rw [Nat.add_mul] at this
    omega
  · rw [Nat.max_eq_left h]
    have := Nat.mul_le_mul_right (Cel.sz α) h
    rw [Nat.add_mul] at this
    omega
/-- Its first part is one's own too. -/
theorem Own.shr {w : World} {B E c k : Nat} {a : Option Addr} {xs : List α} (h : Own w B E (Cel.sz α) a xs.length c (flat xs)) : Own w B E (Cel.sz α) a (xs.take k).length c (flat (xs.take k)) := by
  rcases h.open with ⟨rfl, h1, rfl, _⟩ | ⟨g, re, rfl, e2, e3, e4, e5, e6⟩
  · have : xs = [] := List.eq_nil_of_length_eq_zero h1
    subst this
    rw [List.take_nil]
    exact Own.nil ..
  · have e : flat xs ++ re = flat (xs.take k) ++ (flat (xs.drop k) ++ re) := by rw [← List.append_assoc, ← flat_app, List.take_append_drop]
    rw [e] at e3
    refine Own.mk' e2 e3 (flat_length _) (by rw [List.length_take]; omega) e5 ?_
    have hl := congrArg List.length (List.take_append_drop k xs)
    rw [List.length_append] at hl
    rw [flat_length] at e6
    rw [List.length_append, flat_length, flat_length, ← Nat.add_assoc, ← Nat.add_mul, hl]
    exact e6
theorem Ent.shr {E : TypeId} {a : Option Addr} {c k : Nat} {xs : List α} {H : List Ck} : Ent (ol E a c xs :: H) (ol E a c (xs.take k) :: H) :=
  Ent.hd1 fun _ _ h => ⟨Own.shr h.1, h.2⟩
theorem sl_at {k c p sz : Nat} (h : c ≠ p) : sl (some ⟨k, 0, none⟩) c p sz = some ⟨k, p * sz, none⟩ := by
  unfold sl
  rw [if_neg h]
  have hadd : (⟨k, 0, none⟩ : Addr).add (p * sz) = ⟨k, p * sz, none⟩ := by unfold Addr.add; split <;> simp_all
  rw [Option.map_some, hadd]
variable {M : Md} {P : Program} {n : Nat} {ds : Dx} {ops : Array Oper} {Q : Exit → Act → World → Prop} {rest : Tr} {l : List (Nat × Value)} {w0 : World} {H : List Ck} {b : Bool} {ty : TypeId} {pos : String} {af : Array Edge} {g : Option (Nat × Bool)}
/-- copy(s[p:], x), s a list of one's own (it may grow up to its capacity): what it does. -/
theorem copyP_core {T U E ty : TypeId} {sz by' : Nat} [hT : SlT P T E sz by'] {a a2 : Option Addr} {c c1 c2 k p : Nat} {xs ys : List α} {H' : List Ck} {w : World} (hw : Sat w0 H w)
    (hsrc : RSl w0 H a2 c2 ys) (hA : At (ol E a c xs) (ol E a c (putL xs p (ys.take k))) H H') (hp : p ≤ xs.length) (hfit : p + k ≤ c) (hz : sz = Cel.sz α) :
    ∃ w', (Builtin.copy_ #[T, U] ty #[.slice (sl a c p sz) k c1, .slice a2 ys.length c2]).run P w = .ok (.int .i64 ((min ys.length k : Nat) : Int)) w' ∧ Sat w0 H' w' := by
  subst hz
  have hi := info_sz (P := P) (T := T)
  have hS := hsrc w hw
  have ho := Sat.ownOf hA hw
  have hlt : (ys.take k).length = min ys.length k := by rw [List.length_take]; omega
  by_cases h0 : Nat.min ys.length k = 0
  · have h0' : min ys.length k = 0 := h0
    have e : putL xs p (ys.take k) = xs := by
      have : ys.take k = [] := List.eq_nil_of_length_eq_zero (by omega)
      rw [this, putL]
      simp
    have hw' : Sat w0 H' w := by
      rw [e] at hA
      obtain ⟨R, g1, g2⟩ := hA.out
      exact (hw.perm g1).perm g2.symm
    have hrun := run_copy_noneK (P := P) w T U ty E (Cel.sz α) (sl a c p (Cel.sz α)) a2 k c1 ys.length c2 hT.und hi h0
    refine ⟨w, ?_, hw'⟩
    rw [h0']
    exact hrun
  · have h0' : ¬ min ys.length k = 0 := h0
    rcases ho.open with ⟨_, _, h1, _⟩ | ⟨gg, re, rfl, g2, g3, g4, g5, g6⟩
    · omega
    · cases a2 with
      | none => have := hS.nil rfl; have := hS.le; omega
      | some ad =>
        rw [sl_at (by omega)]
        have hfy := flat_length (ys.take k)
        have hpz : p * Cel.sz α ≤ xs.length * Cel.sz α := Nat.mul_le_mul_right _ hp
        have h3 : (p + k) * Cel.sz α ≤ c * Cel.sz α := Nat.mul_le_mul_right _ hfit
        have h4 : min ys.length k * Cel.sz α ≤ k * Cel.sz α := Nat.mul_le_mul_right _ (Nat.min_le_right _ _)
        rw [Nat.add_mul] at h3
        rw [hlt] at hfy
        have hrun := run_copy_rowK (P := P) w T U ty E (Cel.sz α) gg (p * Cel.sz α) k c1 ad ys.length c2 (flat xs ++ re).toArray E (flat (ys.take k)) hT.und hi g3 hfy (fun j v hj => hS.cells ad rfl j v (by
          have e := flat_app (ys.take k) (ys.drop k)
          rw [List.take_append_drop] at e
          rw [e, List.getElem?_append_left (List.getElem?_eq_some_iff.1 hj).1]
          exact hj)) (by rw [hfy, List.size_toArray, List.length_append]; omega) (flat_oneC _)
        have hB := setRow_heap w gg (flat xs ++ re).toArray ((flat xs ++ re).toArray.toList.take (p * Cel.sz α) ++ flat (ys.take k) ++ (flat xs ++ re).toArray.toList.drop (p * Cel.sz α + (flat (ys.take k)).length)).toArray E (0, 0) g3
        have hX : Ext (fun i => i = gg) w (w.setRow gg ((flat xs ++ re).toArray.toList.take (p * Cel.sz α) ++ flat (ys.take k) ++ (flat xs ++ re).toArray.toList.drop (p * Cel.sz α + (flat (ys.take k)).length)).toArray) := ⟨rfl, rfl, rfl, by simp [World.setRow], fun k _ hn => setRow_other w gg k _ hn⟩
        have hO := own_put (w' := w.setRow gg ((flat xs ++ re).toArray.toList.take (p * Cel.sz α) ++ flat (ys.take k) ++ (flat xs ++ re).toArray.toList.drop (p * Cel.sz α + (flat (ys.take k)).length)).toArray) (E := E) (p := p) (ys := ys.take k) g2 g4 g5 g6 hp (by rw [hlt]; omega) hB
        have hw' := hw.own hA hO (hX.mono fun i _ e => by rw [e]; rfl) (fun ad' e => by cases e; exact .inl rfl)
        exact ⟨_, hrun, hw'⟩
/-- copy(s[p:], x), s a list of one's own (it may grow up to its capacity). -/
theorem s_copyP {d : Nat} {T U E : TypeId} {sz by' : Nat} [hT : SlT P T E sz by'] {s x : Operand} {a a1 a2 : Option Addr} {c c1 c2 m k p : Nat} {xs ys : List α} {H' : List Ck} (hs : ev l s = some (.slice a1 k c1)) (hx : ev l x = some (.slice a2 m c2)) (ha : a1 = sl a c p sz)
    (h : SL M P n ds ops Q rest ((d, .int .i64 ((min ys.length k : Nat) : Int)) :: l) w0 H')
    (hsrc : RSl w0 H a2 c2 ys := by exact rsl) (hA : At (ol E a c xs) (ol E a c (putL xs p (ys.take k))) H H' := by exact at_) (hp : p ≤ xs.length := by omega) (hfit : p + k ≤ c := by omega) (hm : m = ys.length := by first | exact rfl | omega | simp)
    (hb : M.act b = true := by exact rfl) (hg : gOk ops l g = true := by exact rfl) (hd : Nat.blt d n = true := by exact rfl) (hz : sz = Cel.sz α := by exact rfl) (hk : Chk M H' := by intros; first | exact chk_seq | exact chk_held (by exact entq) | exact chk_held (by exact ent)) :
    SL M P n ds ops Q (.one b ⟨some d, .call { callee := .builtin .copy, args := #[s, x], argTypes := #[T, U] }, ty, pos, af, g⟩ rest) l w0 H := .mk fun w hw => by
  subst hm
  subst ha
  obtain ⟨w', hr, hw'⟩ := copyP_core (P := P) (T := T) (U := U) (ty := ty) (c1 := c1) hw hsrc hA hp hfit hz
  exact l_e (Md.any hb) hg hd (fun ρ hρ => by simp [execOp, resolve, invoke, builtin, hρ _ _ hs, hρ _ _ hx, hr]) (hk.out hw') (h.out w' hw')
/-- clear(s[p:]), s a list of one's own. -/
theorem s_clearP {T E : TypeId} {sz by' : Nat} [hT : SlT P T E sz by'] {x0 : α} [hx0 : ZxT P E α x0] {s : Operand} {a a1 : Option Addr} {c c1 k p : Nat} {xs : List α} {H' : List Ck} (hs : ev l s = some (.slice a1 k c1)) (ha : a1 = sl a c p sz)
    (h : SL M P n ds ops Q rest l w0 H')
    (hA : At (ol E a c xs) (ol E a c (putL xs p (List.replicate k x0))) H H' := by exact at_) (hp : p ≤ xs.length := by omega) (hfit : p + k ≤ c := by omega)
    (hb : M.act b = true := by exact rfl) (hg : gOk ops l g = true := by exact rfl) (hz : sz = Cel.sz α := by exact rfl) (hk : Chk M H' := by intros; first | exact chk_seq | exact chk_held (by exact entq) | exact chk_held (by exact ent)) :
    SL M P n ds ops Q (.one b ⟨none, .call { callee := .builtin .clear, args := #[s], argTypes := #[T] }, ty, pos, af, g⟩ rest) l w0 H := .mk fun w hw => by
  subst hz
  subst ha
  have ho := Sat.ownOf hA hw
  obtain ⟨z, z1, z2⟩ := hx0.run
  have fin : ∀ w', (Builtin.clear_ #[T] ty #[.slice (sl a c p (Cel.sz α)) k c1]).run P w = .ok (.tuple #[]) w' → Sat w0 H' w' → LJ (M.mode w0) P n ds ops Q (.one b ⟨none, .call { callee := .builtin .clear, args := #[s], argTypes := #[T] }, ty, pos, af, g⟩ rest) l w := fun w' hr hw' =>
    l_v0 (v := .tuple #[]) (Md.any hb) hg (fun ρ hρ => by simp [execOp, resolve, invoke, builtin, hρ _ _ hs, hr]) (hk.out hw') (h.out w' hw')
  by_cases h0 : k = 0
  · subst h0
    have e : putL xs p (List.replicate 0 x0) = xs := by simp [putL]
    have hw' : Sat w0 H' w := by
      rw [e] at hA
      obtain ⟨R, g1, g2⟩ := hA.out
      exact (hw.perm g1).perm g2.symm
    refine fin w ?_ hw'
    generalize sl a c p (Cel.sz α) = aa
    cases aa <;> simp [Builtin.clear_, run_underlying hT.und]
  · rcases ho.open with ⟨_, _, h1, _⟩ | ⟨gg, re, rfl, g2, g3, g4, g5, g6⟩
    · omega
    · rw [sl_at (by omega)] at fin
      have hfy := flat_length (List.replicate k x0)
      rw [List.length_replicate] at hfy
      have hpz : p * Cel.sz α ≤ xs.length * Cel.sz α := Nat.mul_le_mul_right _ hp
      have h3 : (p + k) * Cel.sz α ≤ c * Cel.sz α := Nat.mul_le_mul_right _ hfit
      rw [Nat.add_mul] at h3
      have hmade : (Builtin.zeroCells z.cells k).toList = flat (List.replicate k x0) := by
        have hs' : z.cells.size = Cel.sz α := by rw [← Array.length_toList, z2, Cel.len]
        have := made_flat z2 k
        rw [← this]
        unfold Builtin.zeroCells madeCells
        rw [hs']
      have hst := run_storeCells_at P gg (p * Cel.sz α) E (flat (List.replicate k x0)) 0 (flat xs ++ re).toArray w g3 (by rw [hfy, List.size_toArray, List.length_append]; omega) (flat_oneC _)
      simp only [Nat.add_zero] at hst
      have hrun : (Builtin.clear_ #[T] ty #[.slice (some ⟨gg, p * Cel.sz α, none⟩) k c1]).run P w = .ok (.tuple #[]) (w.setRow gg ((flat xs ++ re).toArray.toList.take (p * Cel.sz α) ++ flat (List.replicate k x0) ++ (flat xs ++ re).toArray.toList.drop (p * Cel.sz α + (flat (List.replicate k x0)).length)).toArray) := by
        obtain ⟨m, rfl⟩ : ∃ m, k = m + 1 := ⟨k - 1, by omega⟩
        simp [Builtin.clear_, run_underlying hT.und, z1, hmade, hst]
      have hB := setRow_heap w gg (flat xs ++ re).toArray ((flat xs ++ re).toArray.toList.take (p * Cel.sz α) ++ flat (List.replicate k x0) ++ (flat xs ++ re).toArray.toList.drop (p * Cel.sz α + (flat (List.replicate k x0)).length)).toArray E (0, 0) g3
      have hX : Ext (fun i => i = gg) w (w.setRow gg ((flat xs ++ re).toArray.toList.take (p * Cel.sz α) ++ flat (List.replicate k x0) ++ (flat xs ++ re).toArray.toList.drop (p * Cel.sz α + (flat (List.replicate k x0)).length)).toArray) := ⟨rfl, rfl, rfl, by simp [World.setRow], fun k _ hn => setRow_other w gg k _ hn⟩
      have hO := own_put (w' := w.setRow gg ((flat xs ++ re).toArray.toList.take (p * Cel.sz α) ++ flat (List.replicate k x0) ++ (flat xs ++ re).toArray.toList.drop (p * Cel.sz α + (flat (List.replicate k x0)).length)).toArray) (E := E) (p := p) (ys := List.replicate k x0) g2 g4 g5 g6 hp (by rw [List.length_replicate]; omega) hB
      have hw' := hw.own hA hO (hX.mono fun i _ e => by rw [e]; rfl) (fun ad' e => by cases e; exact .inl rfl)
      exact fin _ hrun hw'
end
section
variable {P : Program} {S : World → Prop} {l : List (Nat × Value)} {d : Option Tmp} {ty : TypeId} {pos : String} {af : Array Edge} {g : Option (Nat × Bool)}
end
end Go.Sx
namespace Go.Sx
open Go
section
variable {α : Type} [Cel α]
variable {M : Md} {P : Program} {n : Nat} {ds : Dx} {ops : Array Oper} {Q : Exit → Act → World → Prop} {rest : Tr} {l : List (Nat × Value)} {w0 : World} {H : List Ck} {b : Bool} {ty : TypeId} {pos : String} {af : Array Edge} {g : Option (Nat × Bool)}
/-- append(s[:p], make([]T, m)...), where there is no room: a new list. -/
theorem s_appZ {d : Nat} {T E U : TypeId} {sz by' : Nat} [hT : SlT P T E sz by'] [hU : InT P U .i64] {x0 : α} [hx0 : ZxT P E α x0] {s x : Operand} {a : Option Addr} {c p : Nat} {m : Nat} {xs : List α}
    (h : ∀ a' c', SL M P n ds ops Q rest ((d, .slice a' (p + m) c') :: l) w0 (ol E a' c' (xs.take p ++ List.replicate m x0) :: H))
    (hs : ev l s = some (.slice a p c) := by exact rfl) (hx : ev l x = some (.int .i64 (m : Int)) := by exact rfl) (hsrc : RSl w0 H a c xs := by exact rsl) (hp : p ≤ xs.length := by omega) (hm : 0 < m := by omega) (hc : c < p + m := by omega)
    (hby : (p + m) * by' ≤ 140737488355328 := by omega) (hy1 : Nat.ble 1 by' = true := by exact rfl)
    (hb : M.act b = true := by exact rfl) (hg : gOk ops l g = true := by exact rfl) (hd : Nat.blt d n = true := by exact rfl) (hz : sz = Cel.sz α := by exact rfl) (hk : ∀ a' c', Chk M (ol E a' c' (xs.take p ++ List.replicate m x0) :: H) := by intros; first | exact chk_seq | exact chk_held (by exact entq) | exact chk_held (by exact ent)) :
    SL M P n ds ops Q (.one b ⟨some d, .call { callee := .builtin .append, args := #[s, x], argTypes := #[T, U] }, ty, pos, af, g⟩ rest) l w0 H := .mk fun w hw => by
  subst hz
  have h1 := Nat.le_of_ble_eq_true hy1
  have h2 := Nat.le_mul_of_pos_right (p + m) h1
  have h3 : m * by' ≤ (p + m) * by' := Nat.mul_le_mul_right _ (by omega)
  have hS := hsrc w hw
  obtain ⟨z, z1, z2⟩ := hx0.run
  obtain ⟨i, z', i1, i2, i3, i4, i5⟩ := hT.info
  have ez : z' = z := by
    have := z1 w
    simp [zeroValue, typeInfo, i1, i2] at this
    exact this
  subst ez
  have hft : flat (xs.take p) = (flat xs).take (p * Cel.sz α) := flat_take xs p
  have hfl : (flat (xs.take p)).length = p * Cel.sz α := by rw [flat_length, List.length_take, Nat.min_eq_left hp]
  have hold : (Builtin.firstCells i.size p (.slice a p c)).run P w.drew = .ok (flat (xs.take p)).toArray w.drew := by
    rw [i3]
    cases a with
    | none =>
      have h0 := hS.nil rfl
      have h0' := hS.le
      have hp0 : p = 0 := by omega
      subst hp0
      have e : flat (xs.take 0) = [] := by simp
      rw [e, run_firstCells_none]
    | some ad =>
      refine run_firstCells_some w.drew (Cel.sz α) p ad p c (flat (xs.take p)) hfl fun j v hj => ?_
      rw [hft, List.getElem?_take] at hj
      split at hj
      · exact hS.cells ad rfl j v hj
      · cases hj
  have hrun := Lib.run_append_grow_zeros (P := P) w T U ty E i z' .i64 .i64 hT.und hU.und i1 i2 a p c (flat (xs.take p)) hold m hm (by rw [i3]; exact Cel.pos) hc (by omega) (by rw [i4]; omega) (by rw [i4]; exact growslice_fits hc hby)
  have hmade : (Builtin.zeroCells z'.cells m).toList = flat (List.replicate m x0) := by
    have hs' : z'.cells.size = Cel.sz α := by rw [← Array.length_toList, z2, Cel.len]
    have := made_flat z2 m
    rw [← this]
    unfold Builtin.zeroCells madeCells
    rw [hs']
  have hmade2 : ∀ k, (Builtin.zeroCells z'.cells k).toList.length = k * Cel.sz α := fun k => by
    have hs' : z'.cells.size = Cel.sz α := by rw [← Array.length_toList, z2, Cel.len]
    simp [Builtin.zeroCells, hs']
  have hge := grownCap_ge w (p + m) c E
  have hle := grownCap_le_maxLen w (p + m) c E (by unfold maxLen; omega)
  generalize grownCap w (p + m) c E = G at hrun hge hle
  have hfa : flat (xs.take p ++ List.replicate m x0) = flat (xs.take p) ++ flat (List.replicate m x0) := flat_app _ _
  have hll : (xs.take p ++ List.replicate m x0).length = p + m := by rw [List.length_append, List.length_take, List.length_replicate, Nat.min_eq_left hp]
  have hHB : HB (w.drew.alloc (.cells ((flat (xs.take p)).toArray ++ Builtin.zeroCells z'.cells m ++ Builtin.zeroCells z'.cells (G - (p + m))) E)) w.heap.size E (flat (xs.take p ++ List.replicate m x0) ++ (Builtin.zeroCells z'.cells (G - (p + m))).toList) := by
    unfold HB
    rw [hfa, ← hmade]
    have e : ((flat (xs.take p) ++ (Builtin.zeroCells z'.cells m).toList) ++ (Builtin.zeroCells z'.cells (G - (p + m))).toList).toArray = (flat (xs.take p)).toArray ++ Builtin.zeroCells z'.cells m ++ Builtin.zeroCells z'.cells (G - (p + m)) := by
      apply Array.toList_inj.1
      simp
    rw [e]
    exact heap_alloc_new w.drew _
  have hOwn : Own (w.drew.alloc (.cells ((flat (xs.take p)).toArray ++ Builtin.zeroCells z'.cells m ++ Builtin.zeroCells z'.cells (G - (p + m))) E)) w.heap.size E (Cel.sz α) (some ⟨w.heap.size, 0, none⟩) (xs.take p ++ List.replicate m x0).length G (flat (xs.take p ++ List.replicate m x0)) := by
    refine Own.mk' (Nat.le_refl _) hHB (flat_length _) (by rw [hll]; exact hge) hle ?_
    rw [hmade2, flat_length, hll, ← Nat.add_mul, Nat.add_sub_cancel' hge]
    exact Nat.le_refl _
  have hX : Ex w (w.drew.alloc (.cells ((flat (xs.take p)).toArray ++ Builtin.zeroCells z'.cells m ++ Builtin.zeroCells z'.cells (G - (p + m))) E)) :=
    (Ext.drew w).trans ((Ext.of_grown (World.grownBy_alloc w.drew _ none)).mono fun _ _ h => by cases h)
  have hw' := hOwn.sat hw hX
  exact l_e (Md.any hb) hg hd (fun ρ hρ => by simp [execOp, resolve, invoke, builtin, hρ _ _ hs, hρ _ _ hx, hrun]) ((hk _ _).out hw') ((h _ _).out _ hw')
end
/-- A function that is slices.overlaps. -/
class OvT (P : Program) (k : FuncId) (T : TypeId) : Prop where
  run : ∃ R : TypeId, ∀ args w, (callFunc k args).run P w = ((Extern.SlicesOverlaps.overlaps #[T, T] #[R] args).run P w).andThen fun v w' => .ok (.value v) w'
section
variable {α : Type} [Cel α]
variable {P : Program} {l : List (Nat × Value)} {d : Option Tmp} {ty : TypeId} {pos : String} {af : Array Edge} {g : Option (Nat × Bool)} {w0 : World} {H : List Ck}
omit [Cel α] in
/-- Two pieces of a list of pieces lie apart. -/
theorem Sat.apart {w : World} {R R2 : List Ck} {E F sz sz' m m' : Nat} {a b : Option Addr} {c c' : Nat} {xs ys : List Value} (hw : Sat w0 H w) (hA : Rm (.own E sz a m c xs) H R) (hB : Rm (.own F sz' b m' c' ys) R R2) :
    Own w 0 E sz a m c xs ∧ Own w 0 F sz' b m' c' ys ∧ ∀ ad bd, a = some ad → b = some bd → ad.block ≠ bd.block := by
  obtain ⟨h1, S, hS, hH⟩ := hw.perm hA.out
  obtain ⟨S1, g1, ⟨g2, g3⟩, g4⟩ := hH
  obtain ⟨T1, t1, ⟨t2, t3⟩, t4⟩ := g4.perm hB.out
  refine ⟨g2, t2, fun ad bd ha hb he => ?_⟩
  have h2 := t1 _ (t3 bd hb)
  exact h2.2 (he ▸ g3 ad ha)
/-- Do two lists overlap? Two of one's own do not. -/
theorem y_ovl {k : FuncId} {T E F G : TypeId} {sz by' : Nat} [hT : SlT P T E sz by'] [hO : OvT P k T] [hZ : AgT P E sz] {x y : Operand} {ts : Array TypeId} {a b b1 : Option Addr} {c c2 d1 m m1 p : Nat} {xs ys : List α} {R R2 : List Ck}
    (hx : ev l x = some (.slice a m c)) (hy : ev l y = some (.slice b1 m1 d1)) (hb : b1 = sl b c2 p sz) (hA : Rm (ol F a c xs) H R) (hB : Rm (ol G b c2 ys) R R2) (hne : 0 < xs.length) (hne2 : 0 < ys.length) (hp : c2 ≠ p) :
    Y P (Sat w0 H) ⟨d, .call { callee := .value (.func k), args := #[x, y], argTypes := ts }, ty, pos, af, g⟩ l (.bool false) := .mk fun w hw ρ hρ => by
  subst hb
  obtain ⟨Rt, hrun⟩ := hO.run
  obtain ⟨o1, o2, o3⟩ := hw.apart hA hB
  rcases o1.open with ⟨_, e0, _⟩ | ⟨ka, ra, rfl, _, k3, k4, k5, k6⟩
  · omega
  rcases o2.open with ⟨_, e0, _⟩ | ⟨kb, rb, rfl, _, q3, q4, q5, q6⟩
  · omega
  have hab : ka ≠ kb := o3 _ _ rfl rfl
  rw [sl_at hp] at hy
  have hfl := flat_length ys
  have hcp := Cel.pos (α := α)
  have hpos : 0 < (flat ys ++ rb).length := by
    rw [List.length_append, hfl]
    have := Nat.mul_pos hne2 hcp
    omega
  have hov := Lib.run_overlaps_apart (P := P) w T Rt E hT.und sz hZ.size ⟨ka, 0, none⟩ ⟨kb, p * sz, none⟩ m c m1 d1 hab F G (flat xs ++ ra).length (flat ys ++ rb).length
    (by simp only [World.shape?]; rw [k3]; simp) (by simp only [World.shape?]; rw [q3]; simp) (by omega) (by simp only [World.frozen?]; rw [k3]; simp) (by simp only [World.frozen?]; rw [k3]; simp)
  have h2 := hrun #[.slice (some ⟨ka, 0, none⟩) m c, .slice (some ⟨kb, p * sz, none⟩) m1 d1] w
  rw [hov] at h2
  simp [execOp, resolve, hρ _ _ hx, hρ _ _ hy, hρ (.func k) _ rfl, Deferred.ofValue, invoke, h2]
end
section
variable {α : Type} [Cel α]
variable {M : Md} {P : Program} {n : Nat} {ds : Dx} {ops : Array Oper} {Q : Exit → Act → World → Prop} {rest : Tr} {l : List (Nat × Value)} {w0 : World} {H : List Ck} {b : Bool} {ty : TypeId} {pos : String} {af : Array Edge} {g : Option (Nat × Bool)}
/-- copy(s[p:], x), where x is longer than what is taken of it: only that is looked at. -/
theorem s_copyQ {d : Nat} {T U E : TypeId} {sz by' : Nat} [hT : SlT P T E sz by'] {s x : Operand} {a a1 a2 : Option Addr} {c c1 c2 c3 m k p : Nat} {xs ys : List α} {H' : List Ck} (hs : ev l s = some (.slice a1 k c1)) (hx : ev l x = some (.slice a2 m c2)) (ha : a1 = sl a c p sz)
    (h : SL M P n ds ops Q rest ((d, .int .i64 (k : Nat)) :: l) w0 H')
    (hsrc : RSl w0 H a2 c3 ys := by exact rsl) (hA : At (ol E a c xs) (ol E a c (putL xs p ys)) H H' := by exact at_) (hp : p ≤ xs.length := by omega) (hfit : p + k ≤ c := by omega) (hm : k = ys.length := by first | exact rfl | omega | simp) (hkm : k ≤ m := by omega)
    (hb : M.act b = true := by exact rfl) (hg : gOk ops l g = true := by exact rfl) (hd : Nat.blt d n = true := by exact rfl) (hz : sz = Cel.sz α := by exact rfl) (hk : Chk M H' := by intros; first | exact chk_seq | exact chk_held (by exact entq) | exact chk_held (by exact ent)) :
    SL M P n ds ops Q (.one b ⟨some d, .call { callee := .builtin .copy, args := #[s, x], argTypes := #[T, U] }, ty, pos, af, g⟩ rest) l w0 H := .mk fun w hw => by
  subst ha
  have e0 : ys.take k = ys := List.take_of_length_le (by omega)
  have hA2 : At (ol E a c xs) (ol E a c (putL xs p (ys.take k))) H H' := by rw [e0]; exact hA
  obtain ⟨w', hr, hw'⟩ := copyP_core (P := P) (T := T) (U := U) (ty := ty) (c1 := c1) hw hsrc hA2 hp hfit hz
  have hr2 : (Builtin.copy_ #[T, U] ty #[.slice (sl a c p sz) k c1, .slice a2 m c2]).run P w = .ok (.int .i64 (k : Nat)) w' := by
    have e1 : Nat.min m k = Nat.min ys.length k := by
      have h1 : Nat.min m k = k := Nat.min_eq_right hkm
      have h2 : Nat.min ys.length k = k := Nat.min_eq_right (by omega)
      rw [h1, h2]
    have e2 : min ys.length k = k := by omega
    rw [e2] at hr
    rw [← hr]
    obtain ⟨i, z, i1, i2, i3, i4, i5⟩ := hT.info
    cases a2 <;> simp [Builtin.copy_, run_underlying hT.und, Builtin.lenOf, Builtin.firstCells, sizeOf, typeInfo, i1, e1]
  exact l_e (Md.any hb) hg hd (fun ρ hρ => by simp [execOp, resolve, invoke, builtin, hρ _ _ hs, hρ _ _ hx, hr2]) (hk.out hw') (h.out w' hw')
end
section
variable {M : Md} {P : Program} {n : Nat} {ds : Dx} {ops : Array Oper} {Q : Exit → Act → World → Prop} {rest : Tr} {l : List (Nat × Value)} {w0 : World} {H : List Ck} {b : Bool} {ty : TypeId} {pos : String} {af : Array Edge} {g : Option (Nat × Bool)}
/-- A look of whatever kind. -/
theorem s_yV {d : Nat} {op : Op} {v : Value} (hy : Y P (Sat w0 H) ⟨some d, op, ty, pos, af, g⟩ l v) (h : SL .seq P n ds ops Q rest ((d, v) :: l) w0 H) (hg : gOk ops l g = true := by exact rfl) (hd : Nat.blt d n = true := by exact rfl) :
    SL .seq P n ds ops Q (.one b ⟨some d, op, ty, pos, af, g⟩ rest) l w0 H := .mk fun w hs => l_y hg hd (.mk fun w' hw' => by cases (hw' : w' = w); exact hy.out w hs) (h.out w hs)
end
theorem putL_app {α : Type} {l1 l2 ys : List α} {p : Nat} (h1 : l1.length = p) (h2 : l2.length ≤ ys.length) : putL (l1 ++ l2) p ys = l1 ++ ys := by
  subst h1
  rw [putL, List.take_left' rfl, List.drop_append, List.drop_of_length_le (by omega), List.drop_of_length_le (by omega)]
  simp
theorem putL_one {α : Type} {l1 l2 : List α} {x y : α} {p : Nat} (h1 : l1.length = p) : putL (l1 ++ y :: l2) p [x] = l1 ++ x :: l2 := by
  subst h1
  rw [putL, List.take_left' rfl, List.length_singleton, List.drop_append, List.drop_of_length_le (by omega), show l1.length + 1 - l1.length = 1 by omega]
  simp
end Go.Sx
namespace Go.Sx
open Go Go.Proofs
section
variable {P : Program} {n : Nat} {ds : Dx} {Q : Exit → Act → World → Prop} {l l' : List (Nat × Value)} {w0 : World} {H : List Ck} {M : Md} {ops : Array Oper} {rest : Tr} {b : Bool} {ty : TypeId} {pos : String} {af : Array Edge} {g : Option (Nat × Bool)}
theorem RBy.roc {k c : Nat} {xs : List UInt8} (h1 : xs.length ≤ c) (h2 : c ≤ maxLen) : RBy w0 (Ck.ro k (xs.map bv) :: H) (some ⟨k, 0, none⟩) c xs := fun w hs => by
  obtain ⟨S, _, h, _⟩ := hs.hd
  exact ⟨h1, h2, fun e => (by cases e), fun ad e => (by cases e; exact h)⟩
/-- []byte(s). -/
theorem s_s2b {d : Nat} {x : Operand} {U T E : TypeId} {sz by' : Nat} {xs : Bs} [hU : StT P U] [hT : SlT P T E sz by'] [hE : InT P E .u8] (hx : ev l x = some (str xs)) (hl : xs.length ≤ maxLen)
    (h : ∀ k c, xs.length ≤ c → c ≤ maxLen → SL M P n ds ops Q rest ((d, .slice (some ⟨k, 0, none⟩) xs.length c) :: l) w0 (Ck.ro k (xs.map bv) :: H))
    (hb : M.act b = true := by exact rfl) (hg : gOk ops l g = true := by exact rfl) (hd : Nat.blt d n = true := by exact rfl) (hk : ∀ k, Chk M (Ck.ro k (xs.map bv) :: H) := by intros; first | exact chk_seq | exact chk_held (by exact entq) | exact chk_held (by exact ent)) :
    SL M P n ds ops Q (.one b ⟨some d, .convert U T x, ty, pos, af, g⟩ rest) l w0 H := .mk fun w hs => by
  have r := run_bytes_of_string (P := P) w U T E ⟨xs.toArray⟩ hU.und hT.und hE.und
  have hn : (⟨xs.toArray⟩ : ByteArray).size = xs.length := by simp [ByteArray.size]
  have hge := grownCap_ge w xs.length 0 E
  have hle := grownCap_le_maxLen w xs.length 0 E hl
  rw [hn] at r
  generalize hG : grownCap w xs.length 0 E = G at r hge hle
  generalize hW : (w.drew.alloc _ : World) = w' at r
  have hex : Ex w w' := by
    subst hW
    exact Ex.trans (⟨rfl, rfl, rfl, Nat.le_refl _, fun _ _ _ => rfl⟩ : Ex w w.drew) (Ext.alloc _ _)
  have hsz : w'.heap.size = w.heap.size + 1 := by subst hW; simp
  have hcs : Cells w' ⟨w.heap.size, 0, none⟩ (xs.map bv) := fun i v hi => by
    have h1 : (⟨w.heap.size, 0, none⟩ : Addr).add i = ⟨w.heap.size, i, none⟩ := by unfold Addr.add; split <;> simp_all
    rw [h1]
    subst hW
    obtain ⟨hlt, hv⟩ := List.getElem?_eq_some_iff.1 hi
    rw [List.length_map] at hlt
    rw [List.getElem_map] at hv
    subst hv
    simp [World.cell?, bytesRow, World.alloc, World.drew, -World.alloc_eq, -World.drew_eq, Array.getElem?_append, hlt, bv]
  have hw' : Sat w0 (Ck.ro w.heap.size (xs.map bv) :: H) w' := hs.new hex (fun i => i = w.heap.size) (fun i hi => by omega) ⟨hcs, rfl⟩
  refine l_e (Md.any hb) hg hd (fun ρ hρ => ?_) ((hk _).out hw') ((h _ _ hge hle).out w' hw')
  have r' : (convert U T (str xs)).run P w = .ok (.slice (some ⟨w.heap.size, 0, none⟩) xs.length G) w' := r
  simp [execOp, hρ _ _ hx, r', Result.andThen]
end
end Go.Sx
namespace Go.Sx
open Go
section
variable {P : Program} {n : Nat} {ds : Dx} {Q : Exit → Act → World → Prop} {l : List (Nat × Value)} {w0 : World} {H : List Ck} {ops : Array Oper}
theorem s_drU {id : Nat} {lo : List Oper} (Hs : List Ck) (π1 π2 : It) (B : List Nat) (L1 : Array Bool) (hm : P.follows .mixedOrders = true) (hc : okU lo.toArray π1 π2 B L1 = true)
    (h : SL (.held Hs) P n ds lo.toArray (BarQ ds.r P lo.toArray (Sat w0 []) π2 (NoPan Q)) (ordered lo.toArray π1) l w0 H) (he : Ent H Hs := by first | exact entq | exact ent) : SC P n ds (.region id lo.toArray true) Q l w0 H :=
  .mk fun w hs => c_drawU (Sat w0 Hs) (Sat w0 []) π1 π2 B L1 hm hc ((hs.ex (Ext.drew w)).ent he) (fun _ h => h.ent Ent.nil) (h.out _ (hs.ex (Ext.drew w)))
theorem s_bar {π : It} (h : SL (.held []) P n ds ops Q (ordered ops π) l w0 H) : SQ n ds (BarQ ds.r P ops (Sat w0 []) π Q) .normal l w0 H := .mk fun w hs => q_bar (h.out w hs)
end
/-- Two ways to one goal, which is shown once: 'apply s_joinU', 'intro key', walk each way, 'exact key.out'. -/
structure KeyU (X : Prop) : Prop where
  out : X
theorem s_joinU {X G : Prop} (main : KeyU X → G) (key : X) : G := main ⟨key⟩
end Go.Sx
namespace Go.Sx
open Go

/-- How an element reads: as itself. -/
def hR (v : Value) : Option (DataW Value × List MemPlace) := some (.held v, [])
/-- Block b is a map of at most n entries; z: what it has where nothing was put in; f: what it has. -/
def OwnM (w : World) (P : Program) (K : TypeId) (b n : Nat) (z : Value) (f : Int → Value) : Prop :=
  ∃ D : DataW Value, w.ownsMap P K hR b n D ∧ ∀ a : Int, (Lit.int .i64 a).wf = true → D.atKey (.int .i64 a) (.held z) = .held (f a)
theorem OwnM.loc {w w' : World} {P : Program} {K : TypeId} {b n : Nat} {z : Value} {f : Int → Value} (h : OwnM w P K b n z f) (he : w'.heap[b]? = w.heap[b]?) : OwnM w' P K b n z f := by
  obtain ⟨D, ⟨es, clock, hb, h1, h2, h3⟩, hf⟩ := h
  exact ⟨D, ⟨es, clock, he.trans hb, h1, h2, h3⟩, hf⟩
def mpAs (P : Program) (K : TypeId) (b n : Nat) (z : Value) (f : Int → Value) : As := ⟨fun w S => OwnM w P K b n z f ∧ S b, fun h he => ⟨h.1.loc (he _ h.2), h.2⟩⟩
/-- A map of one's own. -/
def Ck.mp (P : Program) (K : TypeId) (b n : Nat) (z : Value) (f : Int → Value) : Ck := .u (mpAs P K b n z f)
section
variable {w0 : World} {H H' : List Ck} {P : Program} {K : TypeId} {b n : Nat} {z : Value} {f : Int → Value}
theorem Sat.mpOf {w : World} {c' : Ck} (ha : At (.mp P K b n z f) c' H H') (h : Sat w0 H w) : OwnM w P K b n z f := by
  obtain ⟨R, h1, _⟩ := h.at ha
  obtain ⟨S, _, h2, _⟩ := h1.hd
  exact h2
def RMp (w0 : World) (H : List Ck) (P : Program) (K : TypeId) (b : Nat) (z : Value) (f : Int → Value) : Prop := ∃ n, ∀ w, Sat w0 H w → OwnM w P K b n z f
theorem RMp.hd : RMp w0 (.mp P K b n z f :: H) P K b z f := ⟨n, fun _ hs => Sat.mpOf (c' := .mp P K b n z f) .hd hs⟩
theorem RMp.tl {d : Ck} (h : RMp w0 H P K b z f) : RMp w0 (d :: H) P K b z f := h.imp fun _ h w hs => h w hs.tl
section
variable {l : List (Nat × Value)} {d : Option Tmp} {ty : TypeId} {pos : String} {af : Array Edge} {g : Option (Nat × Bool)}
end
section
variable {M : Md} {n' : Nat} {ds : Dx} {ops : Array Oper} {Q : Exit → Act → World → Prop} {rest : Tr} {l : List (Nat × Value)} {bb : Bool} {ty : TypeId} {pos : String} {af : Array Edge} {g : Option (Nat × Bool)}
end
end
end Go.Sx
namespace Go.Sx
open Go

/-- What a loop's record bears: how many slots, what is known of them, where a round's values go, the loop's code. -/
structure Lpd where
  n : Nat
  l : List (Nat × Value)
  ps : List Tmp
  asg : Code
  body : Code
  D : Nat
/-- Block ll is the record of such a loop. -/
def LpIs (w : World) (ll : Nat) (σ : Lpd) (st : LoopState) (pd : Option Code) : Prop :=
  ∃ fn tmps, w.heap[ll]? = some (.loop { state := st, pending := pd, fn, tmps, params := σ.ps.toArray, assign := σ.asg, body := σ.body, defers := σ.D }) ∧ tmps.size = σ.n ∧ ∀ t v, look σ.l t = some v → tmps[t]? = some v
theorem LpIs.loc {w w' : World} {ll : Nat} {σ : Lpd} {st : LoopState} {pd : Option Code} (h : LpIs w ll σ st pd) (he : w'.heap[ll]? = w.heap[ll]?) : LpIs w' ll σ st pd := by
  obtain ⟨fn, tmps, h1, h2⟩ := h
  exact ⟨fn, tmps, he.trans h1, h2⟩
def mark (D : Nat) : Deferred := { target := .collected D, args := #[] }
section
variable {P : Program} {w0 : World} {H H1 H' : List Ck} {ll : Nat} {σ : Lpd} {R : Value → List Ck → Prop}
/-! ### A round -/
/-- What a round's end hands to those who called yield. -/
abbrev RdR (w0 : World) (R : Value → List Ck → Prop) : Ending → World → Prop := fun e w => ∃ v, e = .returned v ∧ RS w0 R v w
/-- A call of yield, by a contract. -/
def YldS (P : Program) (w0 : World) (H : List Ck) (ll : Nat) (args : Array Value) (R : Value → List Ck → Prop) : Prop := ∀ w, Sat w0 H w →
  ∃ f tmps assign body, (Instr.yield ll args).run P w = .ok (.round ll f tmps assign body) w ∧ RoundIn (fR none) 0 P ll f tmps assign body w (RdR w0 R)
theorem YldS.ent {args : Array Value} (h : YldS P w0 H' ll args R) (e : Ent H H') : YldS P w0 H ll args R := fun w hs => h w (hs.ent e)
theorem YldS.mono {args : Array Value} {R' : Value → List Ck → Prop} (h : YldS P w0 H ll args R) (hr : ∀ v K, R v K → R' v K) : YldS P w0 H ll args R' := fun w hs => by
  obtain ⟨f, tmps, asg, body, h1, h2⟩ := h w hs
  exact ⟨f, tmps, asg, body, h1, h2.mono fun e w' ⟨v, he, K, h3, h4⟩ => ⟨v, he, K, hr v K h3, h4⟩⟩
theorem YldS.post {args : Array Value} {R' : Value → List Ck → Prop} (h : YldS P w0 H ll args R) (hr : ∀ v K, R v K → ∃ K', R' v K' ∧ Ent K K') : YldS P w0 H ll args R' := fun w hs => by
  obtain ⟨f, tmps, asg, body, h1, h2⟩ := h w hs
  exact ⟨f, tmps, asg, body, h1, h2.mono fun e w' ⟨v, he, K, h3, h4⟩ => by
    obtain ⟨K', h5, h6⟩ := hr v K h3
    exact ⟨v, he, K', h5, h4.ent h6⟩⟩
end
/-! ### yield is called -/
section
variable {P : Program} {n : Nat} {ds : Dx} {Q : Exit → Act → World → Prop} {l : List (Nat × Value)} {w0 : World} {H : List Ck} {M : Md} {ops : Array Oper} {rest : Tr}
variable {b : Bool} {ty : TypeId} {pos : String} {af : Array Edge} {g : Option (Nat × Bool)}
end
/-! ### The statement -/
section
variable {P : Program} {n : Nat} {dl : List Deferred} {Q : Exit → Act → World → Prop} {l : List (Nat × Value)} {w0 : World} {H : List Ck}
end
/-! ### Functions -/
section
variable {P : Program} {fn : Func} {R : Value → List Ck → Prop} {n : Nat} {l : List (Nat × Value)} {w0 : World} {H H1 H' : List Ck}
end
end Go.Sx
namespace Go.Sx
open Go Go.ChangeShapes Go.WideShapes Go.Deep Go.RowKit

section
variable {H : Type} {enc : TypeId × Value → H} {P : Program} {w : World} {base : Nat} {spare : Nat → Bool} {held : Bool}

theorem byte_of {E fuel : Nat} {cs : List Value} {x : DataW H × List MemPlace} (he : P.underlying E = some (.int .u8)) (h : DataW.trod enc P w base spare held fuel E cs = some x) : ∃ u : UInt8, cs = [bv u] := by
  obtain ⟨n, rfl, _, hw⟩ := DataW.trod_int he h
  simp only [Lit.wf, IntKind.min, IntKind.max, IntKind.signed, IntKind.bits, Bool.and_eq_true] at hw
  refine ⟨UInt8.ofNat n.toNat, ?_⟩
  have h1 : 0 ≤ n := by simpa using hw.1
  have h2 : n ≤ 255 := by have := hw.2; simp at this; omega
  have h3 : (UInt8.ofNat n.toNat).toNat = n.toNat := by
    rw [UInt8.toNat_ofNat']
    omega
  have h4 : ((UInt8.ofNat n.toNat).toNat : Int) = n := by rw [h3]; omega
  simp only [bv, h4]

/-- A list by its elements. -/
theorem list_of {α : Type} [Inhabited α] (n : Nat) (p : Nat → α → Prop) (h : ∀ i, i < n → ∃ x, p i x) : ∃ l : List α, l.length = n ∧ ∀ i x, l[i]? = some x → p i x := by
  induction n with
  | zero => exact ⟨[], rfl, by simp⟩
  | succ n ih =>
    obtain ⟨l, hl, hp⟩ := ih (fun i hi => h i (by omega))
    obtain ⟨x, hx⟩ := h n (by omega)
    refine ⟨l ++ [x], by simp [hl], ?_⟩
    intro i y hy
    by_cases hi : i < l.length
    · rw [List.getElem?_append_left hi] at hy
      exact hp i y hy
    · rw [List.getElem?_append_right (by omega)] at hy
      have h0 : i - l.length = 0 := by
        cases hd : i - l.length with
        | zero => rfl
        | succ k => rw [hd] at hy; simp at hy
      rw [h0] at hy
      simp only [List.getElem?_cons_zero, Option.some.injEq] at hy
      subst hy
      have : i = n := by omega
      subst this
      exact hx

theorem weightsAll_mem {e : TypeId} : ∀ {l : List (DataW H)} {d : DataW H} {n : Nat}, d ∈ l → n ∈ d.weights P e → n ∈ DataW.weightsAll P e l
  | x :: l, d, n, hd, hn => by
    simp only [DataW.weightsAll, List.mem_append]
    rcases List.mem_cons.1 hd with rfl | h
    · exact .inl hn
    · exact .inr (weightsAll_mem h hn)
/-- As many bytes as a row's reach lets by. -/
abbrev Rb : Nat := 140737488351232
instance : Inhabited KV := ⟨⟨none, 0, [], none, 0, []⟩⟩
/-- A struct's parts: types and places. -/
def fieldsOf (P : Program) (T : TypeId) : List (TypeId × Nat) := match P.underlying T with
  | some (.struct fs) => fs.toList.map (fun f => (f.type, f.offset))
  | _ => []
theorem fieldsOf_struct {T : TypeId} {L : List (TypeId × Nat)} (h : fieldsOf P T = L) (hne : L ≠ []) : ∃ fs, P.underlying T = some (.struct fs) ∧ fs.toList.map (fun f => (f.type, f.offset)) = L := by
  unfold fieldsOf at h
  split at h
  · rename_i fs hf
    exact ⟨fs, hf, h⟩
  · exact absurd h.symm hne
/-- A struct, part by part. -/
theorem trod_fields {T fuel : Nat} {L : List (TypeId × Nat)} {cs : List Value} {x : DataW H × List MemPlace} (hF : fieldsOf P T = L) (hne : L ≠ []) (h : DataW.trod enc P w base spare held fuel T cs = some x) :
    cs.length = P.cellsOf T ∧ ∃ n, ∀ (i t o : Nat), L[i]? = some (t, o) → ∃ y, DataW.trod enc P w base spare held n t ((cs.drop o).take (P.cellsOf t)) = some y ∧ ∀ m ∈ y.1.weights P t, m ∈ x.1.weights P T := by
  obtain ⟨fs, h1, h2⟩ := fieldsOf_struct hF hne
  obtain ⟨ys, n, _, hxx, hl, hyl, hf⟩ := DataW.trod_struct h1 h
  refine ⟨hl, n, fun i t o hi => ?_⟩
  rw [← h2, List.getElem?_map] at hi
  obtain ⟨f, hfi, he⟩ := Option.map_eq_some_iff.1 hi
  simp only [Prod.mk.injEq] at he
  obtain ⟨rfl, rfl⟩ := he
  have hfi' : fs[i]? = some f := by simpa using hfi
  have hlt : i < fs.size := (Array.getElem?_eq_some_iff.1 hfi').1
  have hy := hf i f hfi'
  have hys : ys[i]? = some (ys[i]'(by omega)) := List.getElem?_eq_getElem (by omega)
  refine ⟨_, hy.trans hys, fun m hm => ?_⟩
  have hx1 : x.1 = .agg (ys.map (·.1)) := by rw [hxx]
  rw [hx1]
  simp only [DataW.weights, h1]
  exact DataW.weights_mem_each (by rw [List.getElem?_map, hfi]; rfl) (by rw [List.getElem?_map, hys]; rfl) m hm
theorem open_i64 {T fuel : Nat} {cs : List Value} {x : DataW H × List MemPlace} (ht : P.underlying T = some (.int .i64)) (h : DataW.trod enc P w base spare held fuel T cs = some x) : ∃ n : Int, cs = [.int .i64 n] ∧ -9223372036854775808 ≤ n ∧ n ≤ 9223372036854775807 := by
  obtain ⟨n, rfl, _, hw⟩ := DataW.trod_int ht h
  simp only [Lit.wf, IntKind.min, IntKind.max, IntKind.signed, IntKind.bits, Bool.and_eq_true] at hw
  have h1 := hw.1
  have h2 := hw.2
  simp at h1 h2
  exact ⟨n, rfl, by omega, by omega⟩
/-- The arguments read as they did. -/
theorem all_stays (hl : laidOutB P = true) {W W' : World} (hB : Below W.heap.size W W') : ∀ (ts : List TypeId) (vs : List Value) (ds : List (DataW H)) (ps : List MemPlace), (ts.all fun t => P.readableRec t && decide (t < P.types.size)) = true → (∀ x ∈ ps, x.block < W.heap.size) →
    DataW.TrodAll enc P W 0 (fun _ => true) true ts vs ds ps → DataW.TrodAll enc P W' 0 (fun b => decide (b < W.heap.size)) true ts vs ds ps
  | [], vs, ds, ps, _, _, h => by
    obtain ⟨rfl, rfl, rfl⟩ := trodAll_nil h
    exact rfl
  | t :: ts, vs, ds, ps, ht, hp, h => by
    obtain ⟨v, vs1, d, ds1, a, b, rfl, rfl, rfl, h1, h2⟩ := trodAll_cons h
    simp only [List.all_cons, Bool.and_eq_true, decide_eq_true_eq] at ht
    refine ⟨a, b, Below.trod hl ht.1.1 ht.1.2 h1 hB (fun x hx => hp x (by simp [hx])), all_stays hl hB ts vs1 ds1 b (by simpa using ht.2) (fun x hx => hp x (by simp [hx])) h2, rfl⟩
/-- The row's closing condition: true, and the arguments read as they did. -/
theorem post_true (hl : laidOutB P = true) {f : Func} {s : ChangeSpec} {apart handsOn : Bool} {W W' : World} {args : Array Value} {tb : TypeId} {ds gs : List (DataW H)} {before : List MemPlace} (hv : s.vars = []) (hrt : f.resultTypes = #[tb]) (hbt : P.underlying tb = some .bool)
    (hts : (f.params.toList.all fun t => P.readableRec t && decide (t < P.types.size)) = true) (hf1 : (s.fn H ds).results = [.lit (.bool true)]) (hf2 : (s.fn H ds).args = ds) (hf3 : (s.fn H ds).vars = [])
    (hW : DataW.Whole enc P f.params.toList s.vars apart W args.toList ds gs before) (hB : Below W.heap.size W W') : s.post enc P f apart true handsOn false W args (.bool true) W' := by
  have hW' := hW
  obtain ⟨p, q, hA, hV, rfl, _, _⟩ := hW
  rw [hv] at hV
  obtain ⟨rfl, rfl⟩ := trodVars_none hV
  have hlt : ∀ x ∈ p, x.block < W.heap.size := fun x hx => by simpa using hW'.lt x (by simpa using hx)
  refine ⟨ds, [], _, [], p, [], hW', ?_, ?_, ?_, hB.frame _, fun h => by cases h⟩
  · rw [List.append_nil, hf1, hrt]
    exact trodAll_mk1 (shut_bool hbt _)
  · rw [List.append_nil, hf2]
    exact all_stays hl hB _ _ _ _ hts hlt hA
  · rw [List.append_nil, hf3, hv]
    exact rfl
end
end Go.Sx
namespace Go.Sx
open Go Go.ChangeShapes Go.WideShapes Go.Deep Go.RowKit

/-- How a Go type's data are opened: to things of a Lean type, of which something is good. -/
class OpC (P : Program) (T : TypeId) (α : outParam Type) [Cel α] (good : outParam (World → α → Prop)) : Prop where
  opens : ∀ {H : Type} {enc : TypeId × Value → H} {w : World} {base : Nat} {spare : Nat → Bool} {held : Bool} {fuel : Nat} {cs : List Value} {x : DataW H × List MemPlace},
    DataW.trod enc P w base spare held fuel T cs = some x → (∀ n ∈ x.1.weights P T, n ≤ reachBytes) → ∃ y : α, cs = Cel.f y ∧ good w y
section
variable {P : Program}
theorem opc_u8 {T : TypeId} (h : P.underlying T = some (.int .u8)) : OpC P T UInt8 (fun _ _ => True) := ⟨fun ht _ => by
  obtain ⟨u, rfl⟩ := byte_of h ht
  exact ⟨u, rfl, trivial⟩⟩
/-- What is good of a slice. -/
structure GSl {α : Type} [Cel α] (good : World → α → Prop) (by' : Nat) (w : World) (a : Option Addr) (c : Nat) (xs : List α) : Prop where
  sl : Sl w a c xs
  el : ∀ x, x ∈ xs → good w x
  sz : xs.length * by' ≤ Rb
theorem list_of' {α : Type} (n : Nat) (p : Nat → α → Prop) (h : ∀ i, i < n → ∃ x, p i x) : ∃ l : List α, l.length = n ∧ ∀ i x, l[i]? = some x → p i x := by
  cases n with
  | zero => exact ⟨[], rfl, by simp⟩
  | succ n =>
    obtain ⟨x0, _⟩ := h 0 (by omega)
    haveI : Inhabited α := ⟨x0⟩
    exact list_of (n + 1) p h
theorem flat_idx' {α : Type} [Cel α] : ∀ (xs : List α) (j : Nat) (v : Value), (flat xs)[j]? = some v → ∃ i x r, xs[i]? = some x ∧ j = i * Cel.sz α + r ∧ (Cel.f x)[r]? = some v
  | [], j, v, h => by simp at h
  | x :: xs, j, v, h => by
    simp only [flat, List.flatMap_cons] at h
    by_cases hj : j < Cel.sz α
    · rw [List.getElem?_append_left (by rw [Cel.len]; exact hj)] at h
      exact ⟨0, x, j, rfl, by omega, h⟩
    · rw [List.getElem?_append_right (by rw [Cel.len]; omega), Cel.len] at h
      obtain ⟨i, y, r, h1, h2, h3⟩ := flat_idx' xs (j - Cel.sz α) v h
      exact ⟨i + 1, y, r, by simpa using h1, by rw [Nat.add_mul]; omega, h3⟩
section
variable {H : Type} {enc : TypeId × Value → H} {w : World} {base : Nat} {spare : Nat → Bool} {held : Bool}
theorem open_sl {T E fuel by' : Nat} {α : Type} [Cel α] {good : World → α → Prop} [ho : OpC P E α good] {cs : List Value} {x : DataW H × List MemPlace} (ht : P.underlying T = some (.slice E)) (hC : P.cellsOf E = Cel.sz α) (hY : P.bytesOf E = by')
    (h : DataW.trod enc P w base spare held fuel T cs = some x) (hw : ∀ n ∈ x.1.weights P T, n ≤ reachBytes) : ∃ a c xs, cs = [.slice a (xs : List α).length c] ∧ GSl good by' w a c xs := by
  rcases open_slice ht h with ⟨rfl, _⟩ | ⟨a, len, cap, m, n, D, Pl, rfl, hb, hl, hm, hmm, hx, hi⟩
  · exact ⟨none, 0, [], rfl, ⟨Nat.le_refl _, Nat.zero_le _, fun _ => rfl, fun ad e => by cases e⟩, (by simp), by simp⟩
  · have hlm : len ≤ m := by rw [hmm]; split <;> omega
    obtain ⟨xs, h1, h2⟩ := list_of' (α := α) len (fun i y => Cells w (a.add (i * Cel.sz α)) (Cel.f y) ∧ good w y) (fun i hil => by
      obtain ⟨cs', hc, ht'⟩ := hi i (by omega)
      obtain ⟨y, rfl, hg⟩ := ho.opens ht' (fun n hn => hw n (by
        rw [hx]
        simp only [DataW.weights, ht, List.mem_cons, List.mem_append]
        exact .inr (.inl (weightsAll_mem (List.mem_map.2 ⟨i, List.mem_range.2 hil, rfl⟩) hn))))
      rw [hC] at hc
      obtain ⟨_, hcl, hat⟩ := World.cells?_some hc
      refine ⟨y, fun r v hv => ?_, hg⟩
      have hr : r < Cel.sz α := by
        have := (List.getElem?_eq_some_iff.1 hv).1
        rwa [Cel.len] at this
      have := hat r hr
      rw [this, hv])
    have hlr : len * by' ≤ Rb := by
      have := hw ((((List.range len).map D).length + ((List.range (m - len)).map fun j => D (len + j)).length) * P.bytesOf E) (by rw [hx]; simp [DataW.weights, ht])
      simp only [List.length_map, List.length_range, hY, reachBytes] at this
      have h3 : len * by' ≤ (len + (m - len)) * by' := Nat.mul_le_mul_right _ (by omega)
      show len * by' ≤ 140737488351232
      omega
    subst h1
    refine ⟨some a, cap, xs, rfl, ⟨hl, hm, (fun e => by cases e), fun ad e => ?_⟩, fun y hy => ?_, hlr⟩
    · cases e
      intro j v hv
      obtain ⟨i, y, r, g1, rfl, g3⟩ := flat_idx' xs j v hv
      have := (h2 i y g1).1 r v g3
      rwa [add_add] at this
    · obtain ⟨i, hi'⟩ := List.getElem?_of_mem hy
      exact (h2 i y hi').2
/-- A bool. -/
theorem open_bool {T fuel : Nat} {cs : List Value} {x : DataW H × List MemPlace} (ht : P.underlying T = some .bool) (h : DataW.trod enc P w base spare held fuel T cs = some x) : ∃ b : Bool, cs = [.bool b] := by
  obtain ⟨b, rfl, _⟩ := DataW.trod_bool ht h
  exact ⟨b, rfl⟩
end
/-- Bytes. -/
theorem opc_sb {T E : TypeId} (h : P.underlying T = some (.slice E)) (he : P.underlying E = some (.int .u8)) (hC : P.cellsOf E = 1) (hY : P.bytesOf E = 1) : OpC P T SB (fun w y => By w y.a y.c y.xs ∧ y.xs.length ≤ Rb) := ⟨fun ht hw => by
  haveI := opc_u8 he
  obtain ⟨a, c, xs, rfl, g⟩ := open_sl (α := UInt8) (good := fun _ _ => True) h hC hY ht hw
  exact ⟨⟨a, c, xs⟩, rfl, g.sl.by', by have := g.sz; rwa [Nat.mul_one] at this⟩⟩
/-- A key and its value. -/
theorem opc_kv {T Tb Eb : TypeId} (hF : fieldsOf P T = [(Tb, 0), (Tb, 1)]) (hc : P.cellsOf T = 2) (hb : P.cellsOf Tb = 1) (h : P.underlying Tb = some (.slice Eb)) (he : P.underlying Eb = some (.int .u8)) (hC : P.cellsOf Eb = 1) (hY : P.bytesOf Eb = 1) :
    OpC P T KV (fun w y => (By w y.ka y.kc y.k ∧ By w y.va y.vc y.v) ∧ y.k.length ≤ Rb ∧ y.v.length ≤ Rb) := ⟨fun {_ _ _ _ _ _ _ cs _} ht hw => by
  obtain ⟨hl, n, hfl⟩ := trod_fields hF (by simp) ht
  rw [hc] at hl
  match cs, hl with
  | [c0, c1], _ =>
    obtain ⟨y0, t0, g0⟩ := hfl 0 _ _ rfl
    obtain ⟨y1, t1, g1⟩ := hfl 1 _ _ rfl
    rw [hb] at t0 t1
    obtain ⟨s0, e0, b0, z0⟩ := (opc_sb h he hC hY).opens t0 (fun m hm => hw m (g0 m hm))
    obtain ⟨s1, e1, b1, z1⟩ := (opc_sb h he hC hY).opens t1 (fun m hm => hw m (g1 m hm))
    simp only [List.drop_zero, List.take_succ_cons, List.take_zero, List.drop_succ_cons] at e0 e1
    cases e0
    cases e1
    exact ⟨⟨s0.a, s0.c, s0.xs, s1.a, s1.c, s1.xs⟩, rfl, ⟨b0, b1⟩, z0, z1⟩⟩
theorem okWide_slv {w : World} {base T E : Nat} {v : Value} (ht : P.underlying T = some (.slice E)) (h : Value.okWide P w .any base T v) : v.cells.toList = [v] := by
  obtain ⟨a, n, c, rfl⟩ := okWide_slice ht h
  rfl
end
section
variable {w : World} {a : Option Addr} {c : Nat}
theorem By.r0 {xs : Bs} (h : By w a c xs) : RBy w [] a c xs := fun _ hs => h.ex hs.old
theorem Sl.r0 {α : Type} [Cel α] {xs : List α} (h : Sl w a c xs) : RSl w [] a c xs := fun _ hs => h.ex hs.old
theorem GSl.en {by' : Nat} {es : List KV} (h : GSl (fun w (y : KV) => (By w y.ka y.kc y.k ∧ By w y.va y.vc y.v) ∧ y.k.length ≤ Rb ∧ y.v.length ≤ Rb) by' w a c es) : REn w [] a c es :=
  REn.mk h.sl.r0 fun e he => ⟨(h.el e he).1.1.r0, (h.el e he).1.2.r0⟩
/-- A contract at the start. -/
theorem FnV.start {P : Program} {k : FuncId} {args : Array Value} {v : Value} {w : World} (h : FnV P w [] k args v) : Fn P k args w (fun v' w' => v' = v ∧ Ex w w') :=
  (h w (Sat.nil w)).mono fun _ _ ⟨_, ⟨h1, _⟩, h3⟩ => ⟨h1, h3.old⟩
end
end Go.Sx

