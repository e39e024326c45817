/- The second layer, part one: what is one's own, in blocks that are apart from one another; lists of such assertions. -/
import Derived.Test.YtbkaabjjmoaijaaSxH
namespace Go.Sx
open Go

/-- An assertion on a world and some of its blocks: it looks at no others. -/
structure As where
  p : World → (Nat → Prop) → Prop
  loc : ∀ {w w' : World} {S : Nat → Prop}, p w S → (∀ b, S b → w'.heap[b]? = w.heap[b]?) → p w' S

/-- A piece of what is one's own: a block that holds cells; a slice at the head of a row; anything else. -/
inductive Ck where
  | hb (b : Nat) (T : TypeId) (vs : List Value)
  | own (E sz : Nat) (a : Option Addr) (n c : Nat) (cells : List Value)
  | u (A : As)

def Ck.p : Ck → World → (Nat → Prop) → Prop
  | .hb b T vs, w, S => HB w b T vs ∧ S b
  | .own E sz a n c xs, w, S => Own w 0 E sz a n c xs ∧ ∀ ad, a = some ad → S ad.block
  | .u A, w, S => A.p w S

theorem HB.loc {w w' : World} {b : Nat} {T : TypeId} {vs : List Value} (h : HB w b T vs) (he : w'.heap[b]? = w.heap[b]?) : HB w' b T vs := by
  unfold HB; rw [he]; exact h
theorem Own.loc {w w' : World} {B E sz : Nat} {a : Option Addr} {n c : Nat} {xs : List Value} (h : Own w B E sz a n c xs) (he : ∀ ad, a = some ad → w'.heap[ad.block]? = w.heap[ad.block]?) : Own w' B E sz a n c xs := by
  obtain ⟨rfl, rfl, rfl, rfl⟩ | ⟨g, rest, rfl, hb, hg, h1, h2, h3⟩ := h.open
  · exact Own.nil ..
  · exact Own.mk hb (hg.loc (he _ rfl)) h.len h1 h2 h3
theorem Ck.loc : ∀ {c : Ck} {w w' : World} {S : Nat → Prop}, c.p w S → (∀ b, S b → w'.heap[b]? = w.heap[b]?) → c.p w' S
  | .hb _ _ _, _, _, _, h, he => ⟨h.1.loc (he _ h.2), h.2⟩
  | .own _ _ _ _ _ _, _, _, _, h, he => ⟨h.1.loc (fun ad e => he _ (h.2 ad e)), h.2⟩
  | .u A, _, _, _, h, he => A.loc h he

def SatS : List Ck → World → (Nat → Prop) → Prop
  | [], _, _ => True
  | c :: H, w, S => ∃ S1 : Nat → Prop, (∀ b, S1 b → S b) ∧ c.p w S1 ∧ SatS H w (fun b => S b ∧ ¬ S1 b)

theorem SatS.mono : ∀ {H : List Ck} {w : World} {S S' : Nat → Prop}, SatS H w S → (∀ b, S b → S' b) → SatS H w S'
  | [], _, _, _, _, _ => trivial
  | _ :: _, _, _, _, ⟨S1, h1, h2, h3⟩, h => ⟨S1, fun b hb => h b (h1 b hb), h2, h3.mono fun b hb => ⟨h b hb.1, hb.2⟩⟩
theorem SatS.loc : ∀ {H : List Ck} {w w' : World} {S : Nat → Prop}, SatS H w S → (∀ b, S b → w'.heap[b]? = w.heap[b]?) → SatS H w' S
  | [], _, _, _, _, _ => trivial
  | _ :: _, _, _, _, ⟨S1, h1, h2, h3⟩, h => ⟨S1, h1, Ck.loc h2 fun b hb => h b (h1 b hb), h3.loc fun b hb => h b hb.1⟩
theorem SatS.swap {c d : Ck} {H : List Ck} {w : World} {S : Nat → Prop} : SatS (c :: d :: H) w S → SatS (d :: c :: H) w S :=
  fun ⟨S1, h1, hc, S2, h2, hd, hH⟩ => ⟨S2, fun b h => (h2 b h).1, hd, S1, fun b h => ⟨h1 b h, fun h' => (h2 b h').2 h⟩, hc, hH.mono fun _ h => ⟨⟨h.1.1, h.2⟩, h.1.2⟩⟩
theorem SatS.perm {H H' : List Ck} (h : H.Perm H') : ∀ {w : World} {S : Nat → Prop}, SatS H w S → SatS H' w S := by
  induction h with
  | nil => exact fun h => h
  | cons c _ ih => exact fun ⟨S1, h1, h2, h3⟩ => ⟨S1, h1, h2, ih h3⟩
  | swap c d H => exact SatS.swap
  | trans _ _ ih1 ih2 => exact fun h => ih2 (ih1 h)
theorem SatS.append {H : List Ck} {w : World} : ∀ {L : List Ck} {S : Nat → Prop}, SatS (L ++ H) w S ↔ ∃ S1 : Nat → Prop, (∀ b, S1 b → S b) ∧ SatS L w S1 ∧ SatS H w (fun b => S b ∧ ¬ S1 b)
  | [], S => ⟨fun h => ⟨fun _ => False, fun _ h => h.elim, trivial, h.mono fun _ hb => ⟨hb, id⟩⟩, fun ⟨_, _, _, h⟩ => h.mono fun _ hb => hb.1⟩
  | c :: L, S => by
    constructor
    · rintro ⟨T, hT, hc, hr⟩
      obtain ⟨S1, h1, hL, hH⟩ := SatS.append.1 hr
      refine ⟨fun b => T b ∨ S1 b, fun b hb => hb.elim (hT b) (fun h => (h1 b h).1), ⟨T, fun b h => .inl h, hc, hL.mono fun b hb => ⟨.inr hb, (h1 b hb).2⟩⟩, hH.mono fun b hb => ⟨hb.1.1, fun h => h.elim hb.1.2 hb.2⟩⟩
    · rintro ⟨S1, h1, ⟨T, hT, hc, hL⟩, hH⟩
      exact ⟨T, fun b hb => h1 b (hT b hb), hc, SatS.append.2 ⟨fun b => S1 b ∧ ¬ T b, fun b hb => ⟨h1 b hb.1, hb.2⟩, hL, hH.mono fun b hb => ⟨⟨hb.1, fun ht => hb.2 (hT b ht)⟩, fun hn => hb.2 hn.1⟩⟩⟩
def starAs (L : List Ck) : As := ⟨fun w S => SatS L w S, fun h he => h.loc he⟩
/-- Several pieces as one. -/
def Ck.star (L : List Ck) : Ck := .u (starAs L)

/-- All that was there in w0 is as it was; what is one's own came since. -/
def Sat (w0 : World) (H : List Ck) (w : World) : Prop := Ex w0 w ∧ ∃ S : Nat → Prop, (∀ b, S b → w0.heap.size ≤ b ∧ b < w.heap.size) ∧ SatS H w S
theorem Sat.nil (w : World) : Sat w [] w := ⟨Ext.refl w, fun _ => False, fun _ h => h.elim, trivial⟩
theorem Sat.old {w0 w : World} {H : List Ck} (h : Sat w0 H w) : Ex w0 w := h.1
theorem Sat.size {w0 w : World} {H : List Ck} (h : Sat w0 H w) : w0.heap.size ≤ w.heap.size := h.1.size
theorem Sat.ex {w0 w w' : World} {H : List Ck} (h : Sat w0 H w) (he : Ex w w') : Sat w0 H w' := by
  obtain ⟨h1, S, hS, hH⟩ := h
  refine ⟨h1.trans he, S, fun b hb => ⟨(hS b hb).1, Nat.lt_of_lt_of_le (hS b hb).2 he.size⟩, hH.loc fun b hb => he.block b (hS b hb).2 id⟩
theorem Sat.perm {w0 w : World} {H H' : List Ck} (h : Sat w0 H w) (hp : H.Perm H') : Sat w0 H' w := ⟨h.1, h.2.imp fun _ h => ⟨h.1, h.2.perm hp⟩⟩
theorem Sat.tl {w0 w : World} {c : Ck} {H : List Ck} (h : Sat w0 (c :: H) w) : Sat w0 H w := by
  obtain ⟨h1, S, hS, S1, _, _, hH⟩ := h
  exact ⟨h1, S, hS, hH.mono fun _ h => h.1⟩
theorem Sat.hd {w0 w : World} {c : Ck} {H : List Ck} (h : Sat w0 (c :: H) w) : ∃ S : Nat → Prop, (∀ b, S b → w0.heap.size ≤ b ∧ b < w.heap.size) ∧ c.p w S := by
  obtain ⟨h1, S, hS, S1, hs, hc, _⟩ := h
  exact ⟨S1, fun b hb => hS b (hs b hb), hc⟩
theorem Sat.star {w0 w : World} {L H : List Ck} : Sat w0 (Ck.star L :: H) w ↔ Sat w0 (L ++ H) w :=
  ⟨fun ⟨h1, S, hS, S1, a, b, c⟩ => ⟨h1, S, hS, SatS.append.2 ⟨S1, a, b, c⟩⟩, fun ⟨h1, S, hS, h⟩ => ⟨h1, S, hS, by obtain ⟨S1, a, b, c⟩ := SatS.append.1 h; exact ⟨S1, a, b, c⟩⟩⟩
/-- A piece that is new. -/
theorem Sat.new {w0 w w' : World} {c : Ck} {H : List Ck} (h : Sat w0 H w) (he : Ex w w') (S' : Nat → Prop) (hS' : ∀ b, S' b → w.heap.size ≤ b ∧ b < w'.heap.size) (hc : c.p w' S') : Sat w0 (c :: H) w' := by
  obtain ⟨h1, S, hS, hH⟩ := h
  have hs := h1.size
  refine ⟨h1.trans he, fun b => S' b ∨ S b, fun b hb => ?_, S', fun b hb => .inl hb, hc, (hH.loc fun b hb => he.block b (hS b hb).2 id).mono fun b hb => ⟨.inr hb, fun h' => ?_⟩⟩
  · have := he.size
    rcases hb with hb | hb
    · have := hS' b hb; omega
    · have := hS b hb; omega
  · have := hS' b h'; have := hS b hb; omega
/-- A piece that is turned. -/
theorem Sat.upd {w0 w w' : World} {c c' : Ck} {H : List Ck} (h : Sat w0 (c :: H) w)
    (hu : ∀ S : Nat → Prop, (∀ b, S b → w0.heap.size ≤ b ∧ b < w.heap.size) → c.p w S → Ext S w w' ∧ ∃ S' : Nat → Prop, c'.p w' S' ∧ ∀ b, S' b → (S b ∨ w.heap.size ≤ b) ∧ b < w'.heap.size) : Sat w0 (c' :: H) w' := by
  obtain ⟨h1, S, hS, S1, hs, hc, hH⟩ := h
  have hz := h1.size
  obtain ⟨he, S', hc', hS'⟩ := hu S1 (fun b hb => hS b (hs b hb)) hc
  have hz' := he.size
  refine ⟨h1.fresh he (fun i hi hn => by have := hS i (hs i hn); omega), fun b => S' b ∨ S b, fun b hb => ?_, S', fun b hb => .inl hb, hc', (hH.loc fun b hb => he.block b (hS b hb.1).2 hb.2).mono fun b hb => ⟨.inr hb.1, fun h' => ?_⟩⟩
  · rcases hb with hb | hb
    · have h2 := hS' b hb
      refine ⟨?_, h2.2⟩
      rcases h2.1 with h3 | h3
      · exact (hS b (hs b h3)).1
      · omega
    · have := hS b hb; omega
  · rcases (hS' b h').1 with h3 | h3
    · exact hb.2 h3
    · have := hS b hb.1; omega
theorem New.sat {w0 w w' : World} {b : Nat} {T : TypeId} {vs : List Value} {H : List Ck} (hN : New w w' b T vs) (h : Sat w0 H w) : Sat w0 (.hb b T vs :: H) w' :=
  h.new hN.ex (fun i => i = b) (fun i hi => by have := hN.at_; have := hN.sz; omega) ⟨hN.hb, rfl⟩
theorem Own.sat {w0 w w' : World} {E sz : Nat} {a : Option Addr} {n c : Nat} {xs : List Value} {H : List Ck} (ho : Own w' w.heap.size E sz a n c xs) (h : Sat w0 H w) (he : Ex w w') : Sat w0 (.own E sz a n c xs :: H) w' :=
  h.new he (fun i => ∃ ad, a = some ad ∧ ad.block = i) (fun i ⟨ad, ha, hi⟩ => by subst ha; subst hi; exact ho.ge) ⟨ho.mono (Nat.zero_le _), fun ad e => ⟨ad, e, rfl⟩⟩

/-! ### Places in a list -/
/-- The piece c of a list, put into another's place. -/
inductive At (c c' : Ck) : List Ck → List Ck → Prop
  | hd {H : List Ck} : At c c' (c :: H) (c' :: H)
  | tl {d : Ck} {H H' : List Ck} (h : At c c' H H') : At c c' (d :: H) (d :: H')
theorem At.out {c c' : Ck} {H H' : List Ck} (h : At c c' H H') : ∃ R, H.Perm (c :: R) ∧ H'.Perm (c' :: R) := by
  induction h with
  | hd => exact ⟨_, .refl _, .refl _⟩
  | tl _ ih =>
    rename_i d _ _ _
    obtain ⟨R, h1, h2⟩ := ih
    exact ⟨d :: R, (h1.cons d).trans (.swap _ _ _), (h2.cons d).trans (.swap _ _ _)⟩
/-- A list without c. -/
inductive Rm (c : Ck) : List Ck → List Ck → Prop
  | hd {H : List Ck} : Rm c (c :: H) H
  | tl {d : Ck} {H H' : List Ck} (h : Rm c H H') : Rm c (d :: H) (d :: H')
theorem Rm.out {c : Ck} {H R : List Ck} (h : Rm c H R) : H.Perm (c :: R) := by
  induction h with
  | hd => exact .refl _
  | tl _ ih => exact (ih.cons _).trans (.swap _ _ _)
theorem Rm.at {c c' : Ck} {H R : List Ck} (h : Rm c H R) : ∃ H', At c c' H H' ∧ H'.Perm (c' :: R) := by
  induction h with
  | hd => exact ⟨_, .hd, .refl _⟩
  | tl _ ih => obtain ⟨H', h1, h2⟩ := ih; exact ⟨_, .tl h1, (h2.cons _).trans (.swap _ _ _)⟩

/-- What one list says another says too. -/
def Ent (H H' : List Ck) : Prop := ∀ w S, SatS H w S → SatS H' w S
theorem Sat.ent {w0 w : World} {H H' : List Ck} (h : Sat w0 H w) (e : Ent H H') : Sat w0 H' w := ⟨h.1, h.2.imp fun S h => ⟨h.1, e w S h.2⟩⟩
theorem Ent.refl {H : List Ck} : Ent H H := fun _ _ h => h
theorem Ent.trans {H H' H'' : List Ck} (h : Ent H H') (k : Ent H' H'') : Ent H H'' := fun w S hs => k w S (h w S hs)
theorem Ent.nil {H : List Ck} : Ent H [] := fun _ _ _ => trivial
theorem Ent.tl {c : Ck} {H H' : List Ck} (h : Ent H H') : Ent (c :: H) H' := fun w _ ⟨_, _, _, h3⟩ => (h w _ h3).mono fun _ h => h.1
theorem Ent.perm {H H' : List Ck} (h : H.Perm H') : Ent H H' := fun _ _ hs => hs.perm h
theorem Ent.head {c : Ck} {H H' : List Ck} (h : Ent H H') : Ent (c :: H) (c :: H') := fun w _ ⟨S1, h1, h2, h3⟩ => ⟨S1, h1, h2, h w _ h3⟩
theorem Ent.cons {c : Ck} {H R H' : List Ck} (hr : Rm c H R) (h : Ent R H') : Ent H (c :: H') := (Ent.perm hr.out).trans h.head
theorem Ent.app {L L' H : List Ck} (h : Ent L L') : Ent (L ++ H) (L' ++ H) := fun w _ hs => by
  obtain ⟨S1, h1, h2, h3⟩ := SatS.append.1 hs
  exact SatS.append.2 ⟨S1, h1, h w _ h2, h3⟩
theorem Ent.star {L H H' : List Ck} (h : Ent H (L ++ H')) : Ent H (Ck.star L :: H') := fun w S hs => by
  obtain ⟨S1, h1, h2, h3⟩ := SatS.append.1 (h w S hs)
  exact ⟨S1, h1, h2, h3⟩
theorem Ent.open {L H H' : List Ck} (h : Ent (L ++ H) H') : Ent (Ck.star L :: H) H' := fun w S ⟨S1, h1, h2, h3⟩ => h w S (SatS.append.2 ⟨S1, h1, h2, h3⟩)
/-- More in a star, at its end. -/
theorem Ent.more {L K : List Ck} {H : List Ck} : Ent (Ck.star L :: (K ++ H)) (Ck.star (L ++ K) :: H) := Ent.open (Ent.star (by rw [List.append_assoc]; exact Ent.refl))
/-- A piece said otherwise. -/
theorem Ent.hd1 {c c' : Ck} {H : List Ck} (h : ∀ w S, c.p w S → c'.p w S) : Ent (c :: H) (c' :: H) := fun w _ ⟨S1, h1, h2, h3⟩ => ⟨S1, h1, h w _ h2, h3⟩
/-- A piece opened into several. -/
theorem Ent.hdL {c : Ck} {L H : List Ck} (h : ∀ w S, c.p w S → SatS L w S) : Ent (c :: H) (L ++ H) := fun w _ ⟨S1, h1, h2, h3⟩ => SatS.append.2 ⟨S1, h1, h w _ h2, h3⟩
/-- Several shut into one. -/
theorem Ent.shut {c : Ck} {L H : List Ck} (h : ∀ w S, SatS L w S → c.p w S) : Ent (L ++ H) (c :: H) := fun w S hs => by
  obtain ⟨S1, h1, h2, h3⟩ := SatS.append.1 hs
  exact ⟨S1, h1, h w _ h2, h3⟩
theorem Sat.at {w0 w : World} {c c' : Ck} {H H' : List Ck} (ha : At c c' H H') (h : Sat w0 H w) : ∃ R, Sat w0 (c :: R) w ∧ ∀ w', Sat w0 (c' :: R) w' → Sat w0 H' w' := by
  obtain ⟨R, h1, h2⟩ := ha.out
  exact ⟨R, h.perm h1, fun w' hs => hs.perm h2.symm⟩
/-- A nil slice of one's own costs nothing. -/
theorem Ent.nilS {E sz : Nat} {H : List Ck} : Ent H (.own E sz none 0 0 [] :: H) := fun w S h => ⟨fun _ => False, fun _ h => h.elim, ⟨Own.nil .., fun _ e => by cases e⟩, h.mono fun _ h => ⟨h, id⟩⟩
theorem Ent.star0 {H : List Ck} : Ent H (Ck.star [] :: H) := Ent.star Ent.refl
/-- A step that turns a piece somewhere in the list. -/
theorem Sat.updAt {w0 w w' : World} {c c' : Ck} {H H' : List Ck} (ha : At c c' H H') (h : Sat w0 H w)
    (hu : ∀ S : Nat → Prop, (∀ b, S b → w0.heap.size ≤ b ∧ b < w.heap.size) → c.p w S → Ext S w w' ∧ ∃ S' : Nat → Prop, c'.p w' S' ∧ ∀ b, S' b → (S b ∨ w.heap.size ≤ b) ∧ b < w'.heap.size) : Sat w0 H' w' := by
  obtain ⟨R, h1, h2⟩ := h.at ha
  exact h2 w' (h1.upd hu)
theorem Sat.hb {w0 w w' : World} {b : Nat} {T : TypeId} {vs vs' : List Value} {H H' : List Ck} (ha : At (.hb b T vs) (.hb b T vs') H H') (h : Sat w0 H w) (hb : HB w' b T vs') (he : Ext (fun i => i = b) w w') : Sat w0 H' w' :=
  h.updAt ha fun S hS ⟨_, hc⟩ => ⟨he.mono fun i _ e => by subst e; exact hc, fun i => i = b, ⟨hb, rfl⟩, fun i e => by subst e; exact ⟨.inl hc, hb.lt⟩⟩
theorem Sat.hbOf {w0 w : World} {b : Nat} {T : TypeId} {vs : List Value} {c' : Ck} {H H' : List Ck} (ha : At (.hb b T vs) c' H H') (h : Sat w0 H w) : HB w b T vs := by
  obtain ⟨R, h1, _⟩ := h.at ha
  obtain ⟨S, _, h2, _⟩ := h1.hd
  exact h2
theorem Sat.ownOf {w0 w : World} {E sz : Nat} {a : Option Addr} {n c : Nat} {xs : List Value} {c' : Ck} {H H' : List Ck} (ha : At (.own E sz a n c xs) c' H H') (h : Sat w0 H w) : Own w w0.heap.size E sz a n c xs := by
  obtain ⟨R, h1, _⟩ := h.at ha
  obtain ⟨S, hS, h2, h3⟩ := h1.hd
  obtain ⟨rfl, rfl, rfl, rfl⟩ | ⟨g, rest, rfl, hb, hg, g1, g2, g3⟩ := h2.open
  · exact Own.nil ..
  · exact Own.mk (hS _ (h3 _ rfl)).1 hg h2.len g1 g2 g3
/-- A slice of one's own that has grown, or was written over. -/
theorem Sat.own {w0 w w' : World} {E sz : Nat} {a a' : Option Addr} {n n' c c' : Nat} {xs xs' : List Value} {H H' : List Ck} (ha : At (.own E sz a n c xs) (.own E sz a' n' c' xs') H H') (h : Sat w0 H w) {B : Nat} (ho : Own w' B E sz a' n' c' xs') (he : Ext (fun i => blk a = some i) w w')
    (hf : ∀ ad', a' = some ad' → blk a = some ad'.block ∨ w.heap.size ≤ ad'.block) : Sat w0 H' w' :=
  h.updAt ha fun S hS ⟨h1, h2⟩ => by
    have hS2 : ∀ i, blk a = some i → S i := fun i hi => by
      cases a with
      | none => cases hi
      | some ad => simp only [blk, Option.map_some, Option.some.injEq] at hi; subst hi; exact h2 _ rfl
    refine ⟨he.mono fun i _ hi => hS2 i hi, fun i => ∃ ad, a' = some ad ∧ ad.block = i, ⟨ho.mono (Nat.zero_le _), fun ad e => ⟨ad, e, rfl⟩⟩, fun i ⟨ad, e, hi⟩ => ?_⟩
    subst hi
    refine ⟨(hf ad e).imp (hS2 _) id, ?_⟩
    subst e
    exact ho.ge.2
theorem Ent.addNil {E sz : Nat} {H H' : List Ck} (h : Ent H H') : Ent H (.own E sz none 0 0 [] :: H') := h.trans Ent.nilS
theorem Ent.addStar {H H' : List Ck} (h : Ent H H') : Ent H (Ck.star [] :: H') := h.trans Ent.star0
/-- A star takes more in. -/
theorem Ent.snoc1 {L H R1 R2 H' : List Ck} {c1 : Ck} (h1 : Rm (.star L) H R1) (h2 : Rm c1 R1 R2) (h : Ent R2 H') : Ent H (.star (L ++ [c1]) :: H') :=
  ((Ent.perm h1.out).trans (Ent.head ((Ent.perm h2.out).trans (Ent.head h)))).trans (Ent.more (K := [c1]))
theorem Ent.snoc2 {L H R1 R2 R3 H' : List Ck} {c1 c2 : Ck} (h1 : Rm (.star L) H R1) (h2 : Rm c1 R1 R2) (h3 : Rm c2 R2 R3) (h : Ent R3 H') : Ent H (.star (L ++ [c1, c2]) :: H') :=
  ((Ent.perm h1.out).trans (Ent.head ((Ent.perm h2.out).trans (Ent.head ((Ent.perm h3.out).trans (Ent.head h)))))).trans (Ent.more (K := [c1, c2]))
theorem Ent.starOf {K H : List Ck} : Ent (.star K :: H) K := fun _ _ ⟨_, h1, h2, _⟩ => SatS.mono h2 h1
theorem Ent.rm {c : Ck} {H R : List Ck} (h : Rm c H R) : Ent H R := (Ent.perm h.out).trans (Ent.tl Ent.refl)
theorem rm {c : Ck} {H R : List Ck} (h : Rm c H R := by (repeat (first | exact Rm.hd | apply Rm.tl)); first | done | fail) : Rm c H R := h
theorem at_ {c c' : Ck} {H H' : List Ck} (h : At c c' H H' := by (repeat (first | exact At.hd | apply At.tl)); first | done | fail) : At c c' H H' := h
theorem stE {K H : List Ck} (h : Ent H K := by (repeat (first | exact Ent.starOf | apply Ent.tl)); first | done | fail) : Ent H K := h
/-- One list out of another: what is there is found, what costs nothing is laid. -/
theorem ent {H H' : List Ck} (h : Ent H H' := by (repeat (first | with_reducible exact Ent.refl | exact Ent.nil | refine Ent.cons (by exact rm) ?_ | refine Ent.addNil ?_ | refine Ent.addStar ?_ | refine Ent.kv1 (by exact rm) (by exact rm) (by exact rm) ?_ | refine Ent.snoc1 (by exact rm) (by exact rm) ?_ | refine Ent.snoc2 (by exact rm) (by exact rm) (by exact rm) ?_ | refine Ent.kv0 ?_ | refine Ent.oe (by exact rm) (by exact rm) ?_ | exact Ent.refl | refine Ent.tl ?_)); first | done | fail) : Ent H H' := h
end Go.Sx
