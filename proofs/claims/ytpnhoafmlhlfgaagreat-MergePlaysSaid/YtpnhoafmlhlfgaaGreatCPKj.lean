/- Part of a proof: several parts of a walk, one behind the other. -/
import Derived.Test.YtpnhoafmlhlfgaaGreatCPV
import Derived.Test.YtpnhoafmlhlfgaaGreatCPJ
import Derived.Test.YtpnhoafmlhlfgaaGreatCMR
import Derived.Test.YtpnhoafmlhlfgaaGreatCMDj
import Derived.Test.YtpnhoafmlhlfgaaGreatCMYj
import Derived.Test.YtpnhoafmlhlfgaaGreatCQBj
import Derived.Test.YtpnhoafmlhlfgaaGreatCKB
import Derived.Test.YtpnhoafmlhlfgaaGreatCMBj
namespace Go.Sx
open Go Go.Proofs
set_option maxRecDepth 10000
variable {w0 : World} {H : List Ck}
theorem TvF.conv {P : Program} {o : Bool} {g0 g1 g2 g0' g1' g2' : Ck} {gm gm' : Nat → Ck} {v : Value} {L : List Pp} (h : TvF P w0 o g0 gm g1 g2 v L)
    (e0 : ∀ H, Ent (g0' :: H) (g0 :: H)) (em : ∀ u H, Ent (gm u :: H) (gm' u :: H)) (em' : ∀ u H, Ent (gm' u :: H) (gm u :: H)) (e1 : ∀ H, Ent (g1 :: H) (g1' :: H)) (e2 : ∀ H, Ent (g2 :: H) (g2' :: H)) : TvF P w0 o g0' gm' g1' g2' v L := by
  obtain ⟨k, cap, h1, h2, h3⟩ := h
  have hn : ∀ {g g' : Ck}, (∀ H, Ent (g :: H) (g' :: H)) → ∀ H, Ent (g :: .star [] :: H) (g' :: H) := fun e H => (e _).trans (Ent.head (Ent.open (L := []) Ent.refl))
  have hs : ∀ {g g' : Ck}, (∀ H, Ent (g :: H) (g' :: H)) → ∀ H, Ent (g :: H) (g' :: .star [] :: H) := fun e H => (e _).trans (Ent.head (Ent.star (L := []) Ent.refl))
  exact ⟨k, cap, h1, h2, h3.frame [] (hs e0) (fun u => hn (em u)) (fun u => hs (em' u)) (hn e1) (hn e2)⟩
/-- The memory of such a telling: the teller, so deep; something; the rest. -/
abbrev mem (T : Nat → Ck) (W : Ck) (D : List Ck) (j : Nat) : Ck := .star (T j :: W :: D)
/-- It tells however deep its teller stands, one deeper at most while it does. -/
def RT (w0 : World) (T : Nat → Ck) (W : Ck) (D : List Ck) (v : Value) (L : List Pp) : Prop :=
  ∀ j, j ≤ 1000 → ∃ f : Nat → Nat, (∀ u, f u ≤ j + 1) ∧ TvF Tryz.prog w0 true (mem T W D j) (fun u => mem T W D (f u)) (mem T W D j) (mem T W D j) v L
theorem mem_out (A D : List Ck) {X : Ck} {T : Nat → Ck} {W : Ck} {j : Nat} (h : ∀ H, Ent (X :: H) (.star (A ++ [mem T W D j]) :: H)) : ∀ H, Ent (X :: H) (mem T W (A ++ D) j :: H) := fun H => by
  refine (h H).trans (Ent.open ?_)
  rw [List.append_assoc]
  refine Ent.star (L := T j :: W :: (A ++ D)) ?_
  show Ent _ (T j :: W :: ((A ++ D) ++ H))
  rw [List.append_assoc]
  refine Ent.trans (H' := A ++ (T j :: W :: D ++ H)) (Ent.appL (Ent.open Ent.refl)) ?_
  refine Ent.perm ?_
  refine (List.perm_middle (a := T j) (l₁ := A) (l₂ := W :: D ++ H)).trans ?_
  exact List.Perm.cons _ List.perm_middle
theorem mem_in (A D : List Ck) {X : Ck} {T : Nat → Ck} {W : Ck} {j : Nat} (h : ∀ H, Ent (.star (A ++ [mem T W D j]) :: H) (X :: H)) : ∀ H, Ent (mem T W (A ++ D) j :: H) (X :: H) := fun H => by
  refine Ent.trans ?_ (h H)
  refine Ent.trans ?_ (Ent.star (L := A ++ [mem T W D j]) Ent.refl)
  rw [List.append_assoc]
  refine Ent.open ?_
  show Ent (T j :: W :: ((A ++ D) ++ H)) _
  rw [List.append_assoc]
  refine Ent.trans (H' := A ++ (T j :: W :: D ++ H)) ?_ (Ent.appL (Ent.star Ent.refl))
  refine Ent.perm ?_
  refine List.Perm.trans ?_ (List.perm_middle (a := T j) (l₁ := A) (l₂ := W :: D ++ H)).symm
  exact List.Perm.cons _ List.perm_middle.symm
theorem fam2_le {f : Nat → Nat} {j : Nat} (h : ∀ u, f u ≤ j + 1) : ∃ f' : Nat → Nat, (∀ u, f' u ≤ j + 1) ∧ f' 0 = j ∧ ∀ u, f' (u + 1) = f u :=
  ⟨fun u => match u with | 0 => j | u + 1 => f u, fun u => by cases u with | zero => exact Nat.le_succ j | succ u => exact h u, rfl, fun _ => rfl⟩
theorem rt_one {v : Value} {L : List Pp} {T : Nat → Ck} {W : Ck} {D : List Ck} (h : RT w0 T W D v L) : v.oneCell' = true := by
  obtain ⟨f, _, k, cap, rfl, _⟩ := h 0 (Nat.zero_le _)
  rfl
/-! Each step. -/
theorem rt_with {T : Nat → Ck} {W : Ck} {D : List Ck} {v : Value} {L : List Pp} {b2 b5 c : Nat} {a : Option Addr} {ms : List Mg} (h : RT w0 T W D v L) (hsm : SmL L) (hl : ms.length ≤ 137438953472) (hz : MzL ms) :
    RT w0 T W (wiL b2 b5 v a c ms ++ D) (.func (.func 44) #[] #[.pointer (some ⟨b5, 0, none⟩), .pointer (some ⟨b2, 0, none⟩)]) (wiM (ms.map Mg.d) L) := by
  intro j hj
  obtain ⟨f, hf, ht⟩ := h j hj
  obtain ⟨f', g1, g2, g3⟩ := fam2_le hf
  refine ⟨f', g1, TvF.conv (o := true) (gm := fun u => wiG b2 b5 v a c ms (fam2 (mem T W D j) (fun u => mem T W D (f u)) u)) ⟨44, [.pointer (some ⟨b5, 0, none⟩), .pointer (some ⟨b2, 0, none⟩)], rfl, inferInstance, with_tell (.inr ht) hsm hl hz⟩ ?_ ?_ ?_ ?_ ?_⟩
  · exact mem_in (wiL b2 b5 v a c ms) D fun _ => Ent.refl
  · intro u
    cases u with
    | zero => rw [g2]; exact mem_out (wiL b2 b5 v a c ms) D fun _ => Ent.refl
    | succ u => rw [g3]; exact mem_out (wiL b2 b5 v a c ms) D fun _ => Ent.refl
  · intro u
    cases u with
    | zero => rw [g2]; exact mem_in (wiL b2 b5 v a c ms) D fun _ => Ent.refl
    | succ u => rw [g3]; exact mem_in (wiL b2 b5 v a c ms) D fun _ => Ent.refl
  · exact mem_out (wiL b2 b5 v a c ms) D fun _ => Ent.refl
  · exact mem_out (wiL b2 b5 v a c ms) D fun _ => Ent.refl
theorem rt_within {T : Nat → Ck} {W : Ck} {D : List Ck} {v : Value} {L : List Pp} {b2 b3 : Nat} {r : Rg} (h : RT w0 T W D v L) (hsm : SmL L) :
    RT w0 T W (wnL b2 b3 v r ++ D) (.func (.func 48) #[] #[.pointer (some ⟨b3, 0, none⟩), .pointer (some ⟨b2, 0, none⟩)]) (inL r.d L) := by
  intro j hj
  obtain ⟨f, hf, ht⟩ := h j hj
  refine ⟨f, hf, TvF.conv (o := true) ⟨48, [.pointer (some ⟨b3, 0, none⟩), .pointer (some ⟨b2, 0, none⟩)], rfl, inferInstance, within_tell (b2 := b2) (b3 := b3) (r := r) (.inr ht) hsm⟩ ?_ ?_ ?_ ?_ ?_⟩
  · exact mem_in (wnL b2 b3 v r) D fun _ => Ent.refl
  · exact fun u => mem_out (wnL b2 b3 v r) D fun _ => Ent.refl
  · exact fun u => mem_in (wnL b2 b3 v r) D fun _ => Ent.refl
  · exact mem_out (wnL b2 b3 v r) D fun _ => Ent.refl
  · exact mem_out (wnL b2 b3 v r) D fun _ => Ent.refl
/-- Error cells. -/
@[reducible] def exL (p : Pb) : List Ck := [exE p.b]
theorem rn_ri {L : List Pp} (h : RiL L) : Rn L L.length := ⟨Nat.le_refl _, fun i p q _ hp hq => by
  obtain ⟨h1, e1⟩ := List.getElem?_eq_some_iff.1 hp
  obtain ⟨h2, e2⟩ := List.getElem?_eq_some_iff.1 hq
  have := List.pairwise_iff_getElem.1 h i (i + 1) h1 h2 (Nat.lt_succ_self i)
  rwa [e1, e2] at this, fun h => absurd h (Nat.lt_irrefl _)⟩
@[reducible] def ckL (b2 b3 eb : Nat) (v : Value) : List Ck := [.hb b2 40 [v], .hb b3 53 [.pointer (some ⟨eb, 0, none⟩)]]
theorem rt_check {T : Nat → Ck} {D : List Ck} {v : Value} {L : List Pp} {b2 b3 eb : Nat} {ws : List Pb} (h : RT w0 T (stars exL ws) D v L) (hsm : SmL L) (hr : RiL L) :
    RT w0 T (stars exL (ws ++ [⟨eb⟩])) (ckL b2 b3 eb v ++ D) (.func (.func 36) #[] #[.pointer (some ⟨b3, 0, none⟩), .pointer (some ⟨b2, 0, none⟩)]) L := by
  intro j hj
  obtain ⟨f, hf, ht⟩ := h j hj
  have hin : ∀ (j : Nat) H, Ent (mem T (stars exL (ws ++ [⟨eb⟩])) (ckL b2 b3 eb v ++ D) j :: H) (ckR b2 b3 eb v (mem T (stars exL ws) D j) :: H) := fun j H => by
    refine Ent.open ?_
    show Ent (T j :: stars exL (ws ++ [⟨eb⟩]) :: _ :: _ :: (D ++ H)) _
    refine Ent.star (L := [_, _, _, _]) ?_
    refine Ent.cons (by exact rm) (Ent.cons (by exact rm) ?_)
    refine Ent.trans (Ent.perm (.swap _ _ _)) ?_
    refine Ent.trans stars_append ?_
    refine Ent.trans (Ent.perm (.swap _ _ _)) ?_
    refine Ent.trans (Ent.open (L := [exE eb]) Ent.refl) ?_
    refine Ent.head ?_
    refine Ent.star (L := T j :: stars exL ws :: D) ?_
    exact Ent.perm (.swap _ _ _)
  have hout : ∀ (j : Nat) H, Ent (ckR b2 b3 eb v (mem T (stars exL ws) D j) :: H) (mem T (stars exL (ws ++ [⟨eb⟩])) (ckL b2 b3 eb v ++ D) j :: H) := fun j H => by
    refine Ent.open (L := [_, _, _, _]) ?_
    refine Ent.star (L := T j :: stars exL (ws ++ [⟨eb⟩]) :: (ckL b2 b3 eb v ++ D)) ?_
    show Ent _ (T j :: stars exL (ws ++ [⟨eb⟩]) :: _ :: _ :: (D ++ H))
    refine Ent.trans (H' := exE eb :: mem T (stars exL ws) D j :: .hb b2 40 [v] :: .hb b3 53 [.pointer (some ⟨eb, 0, none⟩)] :: H) (by
      show Ent (.hb b2 40 [v] :: .hb b3 53 [.pointer (some ⟨eb, 0, none⟩)] :: exE eb :: mem T (stars exL ws) D j :: H) _
      exact Ent.cons (by exact rm) (Ent.cons (by exact rm) Ent.refl)) ?_
    refine Ent.trans (Ent.head (Ent.open (L := T j :: stars exL ws :: D) Ent.refl)) ?_
    show Ent (exE eb :: T j :: stars exL ws :: (D ++ _)) _
    refine Ent.trans (H' := stars exL ws :: stars exL [⟨eb⟩] :: T j :: (D ++ (.hb b2 40 [v] :: .hb b3 53 [.pointer (some ⟨eb, 0, none⟩)] :: H))) ?_ ?_
    · refine Ent.cons (by exact rm) ?_
      exact Ent.star (L := [exE eb]) Ent.refl
    refine Ent.trans stars_append' ?_
    refine Ent.trans (Ent.perm (.swap _ _ _)) ?_
    refine Ent.head (Ent.head ?_)
    refine Ent.perm ?_
    exact (List.perm_middle (l₁ := D)).trans (List.Perm.cons _ List.perm_middle)
  refine ⟨f, hf, TvF.conv (o := true) ⟨36, [.pointer (some ⟨b3, 0, none⟩), .pointer (some ⟨b2, 0, none⟩)], rfl, inferInstance, (by have := check_tellR (b2 := b2) (b3 := b3) (eb := eb) (.inr ht) hsm (rn_ri hr) rfl; rwa [List.take_length] at this)⟩ (hin j) (fun u => hout (f u)) (fun u => hin (f u)) (hout j) (hout j)⟩
theorem rt_first {T : Nat → Ck} {k : Nat} {vt : Value} [FnT Tryz.prog k] {L : List Pp} {b2 b3 : Nat} (h : ∀ j, j ≤ 1000 → TellB Tryz.prog w0 (T j) (fun _ => T (j + 1)) (T j) (T j) k vt L) (hsm : SmL L) (hr : RiL L) :
    RT w0 T (stars exL []) [.hb b2 40 [mtv k vt], .hb b3 53 [.pointer none]] (.func (.func 36) #[] #[.pointer (some ⟨b3, 0, none⟩), .pointer (some ⟨b2, 0, none⟩)]) L := by
  intro j hj
  have hin : ∀ (j : Nat) H, Ent (mem T (stars exL []) [.hb b2 40 [mtv k vt], .hb b3 53 [.pointer none]] j :: H) (ckB b2 b3 (mtv k vt) (T j) :: H) := fun j H => by
    refine Ent.open (L := [_, _, _, _]) ?_
    refine Ent.star (L := [_, _, _]) ?_
    refine Ent.cons (by exact rm) (Ent.cons (by exact rm) (Ent.cons (by exact rm) ?_))
    exact Ent.tl Ent.refl
  have hout : ∀ (j : Nat) H, Ent (ckB b2 b3 (mtv k vt) (T j) :: H) (mem T (stars exL []) [.hb b2 40 [mtv k vt], .hb b3 53 [.pointer none]] j :: H) := fun j H => by
    refine Ent.open (L := [_, _, _]) ?_
    refine Ent.star (L := [_, _, _, _]) ?_
    refine Ent.cons (by exact rm) ?_
    exact stars_nil.trans Ent.refl
  refine ⟨fun _ => j + 1, fun _ => Nat.le_refl _, TvF.conv (o := true) ⟨36, [.pointer (some ⟨b3, 0, none⟩), .pointer (some ⟨b2, 0, none⟩)], rfl, inferInstance, (by have := check_tellB (b2 := b2) (b3 := b3) (h j hj) hsm (rn_ri hr); rwa [List.take_length] at this)⟩ (hin j) (fun u => hout (j + 1)) (fun u => hin (j + 1)) (hout j) (hout j)⟩
/-! Unions of it and others. -/
theorem st_last {A : List Ck} {m : Ck} {H : List Ck} : Ent (.star (A ++ [m]) :: H) (m :: .star A :: H) := Ent.open (by
  rw [List.append_assoc]
  exact Ent.trans (H' := m :: (A ++ H)) (Ent.perm List.perm_middle) (Ent.head (Ent.star Ent.refl)))
theorem st_last' {A : List Ck} {m : Ck} {H : List Ck} : Ent (m :: .star A :: H) (.star (A ++ [m]) :: H) := Ent.star (by
  rw [List.append_assoc]
  exact Ent.trans (H' := m :: (A ++ H)) (Ent.head (Ent.open Ent.refl)) (Ent.perm List.perm_middle.symm))
@[reducible] def unK (b : Nat) (a : Option Addr) (c : Nat) (fs : List Fu) (A : List Ck) : List Ck := .hb b 67 [.slice a fs.length c] :: ol 40 a c fs :: A
theorem rt_union {T : Nat → Ck} {W : Ck} {D A : List Ck} {v : Value} {L : List Pp} {b c : Nat} {a : Option Addr} {fs : List Fu} {ls : List (List Pp)} (h : RT w0 T W D v L) (hn : fs.length = ls.length) (hn2 : fs.length ≤ 549755813888)
    (ht : ∀ (i : Nat) (f : Fu) (l : List Pp), fs[i]? = some f → ls[i]? = some l → l.length ≤ 549755813888 ∧ SmL l ∧ (f.val = v ∧ l = L ∨ TvC Tryz.prog w0 (.star A) f.val l ∨ f.val = .nilFunc ∧ l = [])) :
    RT w0 T W (unK b a c fs A ++ D) (.func (.func 63) #[] #[.pointer (some ⟨b, 0, none⟩)]) (unionL ls) := by
  intro j hj
  obtain ⟨f, hf, ht0⟩ := h j hj
  have hU := union_tell (w0 := w0) (b := b) (a := a) (c := c) (G := .star (A ++ [mem T W D j])) hn hn2 (fun i x l hx hl => by
    obtain ⟨h1, h2, h3⟩ := ht i x l hx hl
    refine ⟨h1, h2, ?_⟩
    rcases h3 with ⟨h3, rfl⟩ | h3 | ⟨h3, rfl⟩
    · refine ⟨true, fun u => .star (A ++ [mem T W D (f u)]), .star (A ++ [mem T W D j]), .inr ?_⟩
      rw [h3]
      obtain ⟨k, cap, q1, q2, q3⟩ := ht0
      exact ⟨k, cap, q1, q2, q3.frame A (fun _ => st_last) (fun _ _ => st_last') (fun _ _ => st_last) (fun _ => st_last') (fun _ => st_last')⟩
    · exact ⟨true, fun _ => .star (A ++ [mem T W D j]), .star (A ++ [mem T W D j]), .inr (h3.frame [mem T W D j] (fun _ => st_app.trans (Ent.star Ent.refl)) (fun _ => (Ent.open Ent.refl).trans st_app'))⟩
    · exact ⟨true, fun _ => .star (A ++ [mem T W D j]), .star (A ++ [mem T W D j]), .inl ⟨h3, rfl, rfl⟩⟩)
  have hin : ∀ H, Ent (mem T W (unK b a c fs A ++ D) j :: H) (uG b a c fs (.star (A ++ [mem T W D j])) :: H) := mem_in (unK b a c fs A) D fun H => (st_app (A := [_, _]) (B := A ++ [mem T W D j])).trans (Ent.star (L := [_, _, _]) Ent.refl)
  have hout : ∀ H, Ent (uG b a c fs (.star (A ++ [mem T W D j])) :: H) (mem T W (unK b a c fs A ++ D) j :: H) := mem_out (unK b a c fs A) D fun H => (Ent.open (L := [_, _, _]) Ent.refl).trans (st_app' (A := [_, _]) (B := A ++ [mem T W D j]))
  exact ⟨fun _ => j, fun _ => Nat.le_succ j, TvF.conv (o := true) ⟨63, [.pointer (some ⟨b, 0, none⟩)], rfl, inferInstance, hU⟩ hin (fun _ => hout) (fun _ => hin) hout hout⟩
theorem un_eq {ls : List (List Pp)} {L : List Pp} (h : ∀ l ∈ ls, RiL l) (hL : RiL L) (hg : ∀ k, fstL ls k = getL L k) : unionL ls = L :=
  RiL.uniq (union_ri h) hL fun k => by rw [union_get h, hg]
theorem un_nil3 {L : List Pp} (hL : RiL L) : unionL [[], L, []] = L := un_eq (by
  intro l hl
  simp only [List.mem_cons, List.not_mem_nil, or_false] at hl
  rcases hl with rfl | rfl | rfl
  · exact List.Pairwise.nil
  · exact hL
  · exact List.Pairwise.nil) hL fun k => by
    simp only [fstL, getL_none (l := []) (k := k) (fun _ h => by cases h)]
    cases getL L k <;> rfl
end Go.Sx
namespace Go.Sx
open Go Go.Proofs
set_option maxRecDepth 10000
variable {w0 : World} {H : List Ck}
/-- A step: its kind, entries, messages, a range. -/
structure Stp where
  k : Int
  la : Option Addr
  lc : Nat
  ls : List KV
  ma : Option Addr
  mc : Nat
  ms : List Mg
  r : Rg
@[reducible] def Stp.cells (o : Stp) : List Value := [.int .i64 o.k, .slice o.la o.ls.length o.lc, .slice o.ma o.ms.length o.mc, .slice o.r.la o.r.lo.length o.r.lc, .slice o.r.ha o.r.hi.length o.r.hc, .bool o.r.all]
instance : Cel Stp := ⟨6, Stp.cells, fun _ => rfl, fun _ => rfl, by decide⟩
instance : ElT Tryz.prog 74 Stp := ⟨trivial⟩
/-- What is read of a step. -/
structure RStp (w0 : World) (H : List Ck) (o : Stp) : Prop where
  l : RSl w0 H o.la o.lc o.ls
  le : ∀ e ∈ o.ls, REe w0 H e
  m : RMs w0 H o.ma o.mc o.ms
  r : RRg w0 H o.r
  zl : ∀ e ∈ o.ls, e.k.length ≤ 140737488355328 ∧ e.v.length ≤ 140737488355328
  zm : MzL o.ms
  zr : o.r.lo.length ≤ 140737488355327 ∧ o.r.hi.length ≤ 140737488355327
theorem RStp.tl {o : Stp} {d : Ck} (h : RStp w0 H o) : RStp w0 (d :: H) o := ⟨h.l.tl, fun e he => (h.le e he).tl, h.m.tl, h.r.tl, h.zl, h.zm, h.zr⟩
theorem RStp.ent {o : Stp} {H' : List Ck} (h : RStp w0 H' o) (g : Ent H H') : RStp w0 H o := ⟨h.l.ent g, fun e he => (h.le e he).ent g, h.m.ent g, h.r.ent g, h.zl, h.zm, h.zr⟩
/-- How much is in a step; in some. -/
def szS (o : Stp) : Nat := sumG o.ls + sumM (o.ms.map Mg.d) + o.r.lo.length + o.r.hi.length
def sumS (ss : List Stp) : Nat := (ss.map szS).sum
theorem sumS_snoc (l : List Stp) (o : Stp) : sumS (l ++ [o]) = sumS l + szS o := by simp [sumS]
theorem sumS_get {l : List Stp} {i : Nat} {o : Stp} (h : l[i]? = some o) : sumS (l.take (i + 1)) = sumS (l.take i) + szS o := by rw [snocT h, sumS_snoc]
theorem sumS_le (l : List Stp) (i : Nat) : sumS (l.take i) ≤ sumS l := by
  conv => rhs; rw [← List.take_append_drop i l]
  simp only [sumS, List.map_append, List.sum_append]
  omega
set_option maxHeartbeats 4000000 in
theorem beyond_s {a a' : Option Addr} {c c' : Nat} {es : List KV} {ss : List Stp} (hx : RSl w0 H a c es) (hy : ∀ e ∈ es, e.k.length ≤ 140737488355328 ∧ e.v.length ≤ 140737488355328) (hs : RSl w0 H a' c' ss) (hr : ∀ o ∈ ss, RStp w0 H o) :
    FnS Tryz.prog w0 H 6 #[.slice a es.length c, .slice a' ss.length c'] (fun v H' => ∃ b : Bool, v = .bool b ∧ (b = false → sumG es + sumS ss ≤ 2147483647) ∧ H' = H) := by
  refine fns_enter Tryz.func6 rfl rfl rfl ?_
  refine s_kn (Kn.sl hs) fun ⟨l1, l2⟩ => ?_
  simp only [maxLen] at l2
  refine sx ?_
  refine s_call rfl (gentries_s hx hy) ?_
  rintro _ H2 ⟨x0, rfl, hx1, hx2, hH⟩
  rw [hH]
  clear hH
  refine ⟨chk_seq, ?_⟩
  refine sx ?_
  refine s_loop (fun q : Nat × Int => [(0, .slice a es.length c), (1, .slice a' ss.length c'), (5, .int .i64 q.2), (6, .int .i64 q.1)]) (fun _ => H) (fun q => q.1 ≤ ss.length ∧ (0 ≤ q.2 ∧ q.2 ≤ 9007199254740992) ∧ (q.2 ≤ 2147483647 → q.2 = ((sumG es + sumS (ss.take q.1) : Nat) : Int))) (fun q => ss.length - q.1) (0, x0) ⟨Nat.zero_le _, by simp only; omega, fun h => by simp only at h ⊢; rw [hx2 h]; simp [sumS]⟩ ?_
  rintro ⟨i, x⟩ ⟨h1, h2, h3⟩
  simp only at h1 h2 h3 ⊢
  refine sx ?_
  refine s_lif rfl (fun t1 => ?_) (fun t1 => ?_)
  · obtain ⟨o, ho⟩ := get_lt ss i (by omega)
    have ro := hr o (List.mem_of_getElem? ho)
    refine sx ?_
    refine s_if rfl (fun t2 => ?_) (fun t2 => ?_)
    · have h4 := h3 t2
      obtain ⟨zr1, zr2⟩ := ro.zr
      refine sx ?_
      refine s_drH H (.one true 0 (.one true 1 (.one true 2 (.one true 3 (.one true 4 (.one true 5 (.one true 8 (.one true 9 (.one true 10 (.one true 11 (.one true 12 (.one true 15 (.one true 16 (.one true 17 (.one true 18 (.one true 19 (.one true 20 (.one true 21 (.one true 23 (.one true 24 (.one true 25 (.one true 26 (.one true 27 (.one true 28 (.one true 29 (.one false 6 (.one true 7 (.one false 13 (.one true 14 (.one true 22 (.one true 30 (.one true 31 .nil)))))))))))))))))))))))))))))))) mixed (by kernel_rfl) ?_ (he := Ent.refl)
      refine sx ?_
      refine s_rw (t := 38) (v' := .pointer (some (((gA a').add (i * 6)).add 3))) rfl rfl ?_
      refine sx ?_
      refine s_rw (t := 46) (v' := .pointer (some (((gA a').add (i * 6)).add 4))) rfl rfl ?_
      refine sx ?_
      refine s_call rfl (gentries_s ro.l ro.zl) ?_
      rintro _ H2 ⟨y1, rfl, hy1, hy2, hH⟩
      rw [hH]
      refine ⟨chk_held Ent.refl, ?_⟩
      refine sx ?_
      refine s_call rfl (gweights_s ro.m (fun m hm => by have := ro.zm m hm; omega)) ?_
      rintro _ H3 ⟨y2, rfl, hy3, hy4, hH3⟩
      rw [hH3]
      refine ⟨chk_held Ent.refl, ?_⟩
      refine sx ?_
      refine s_again (i + 1, x + y1 + y2 + (o.r.lo.length : Int) + (o.r.hi.length : Int)) ⟨by simp only; omega, by simp only; omega, fun h => ?_⟩ (by simp only; omega)
      simp only at h ⊢
      have := hy2 (by omega)
      have := hy4 (by omega)
      rw [sumS_get ho]
      simp only [szS]
      omega
    · refine sx ?_
      refine s_ret1 rfl rfl ⟨_, rfl, fun h => ?_, rfl⟩
      simp at h
      omega
  · obtain rfl : i = ss.length := by omega
    rw [List.take_length] at h3
    refine sx ?_
    refine s_ret1 rfl rfl ⟨_, rfl, fun h => ?_, rfl⟩
    simp at h
    have := h3 h
    omega
end Go.Sx
namespace Go.Sx
open Go Go.Proofs
set_option maxRecDepth 10000
variable {w0 : World} {H : List Ck}
theorem flat_lenB {B : Nat} : ∀ {l : List SE}, (∀ s ∈ l, s.xs.length ≤ B) → (l.flatMap SE.xs).length ≤ l.length * B
  | [], _ => Nat.zero_le _
  | s :: l, h => by
    have h1 := h s List.mem_cons_self
    have h2 := flat_lenB (l := l) fun x hx => h x (List.mem_cons_of_mem _ hx)
    rw [List.flatMap_cons, List.length_append, List.length_cons, Nat.succ_mul]
    omega
structure UnA where
  j : Nat
  a : Option Addr
  c : Nat
def accU (ls : List SE) (j : Nat) : List KV := (ls.drop j).reverse.flatMap SE.xs
theorem accU_step {ls : List SE} {k : Nat} {s : SE} (h : ls[k]? = some s) : accU ls k = accU ls (k + 1) ++ s.xs := by
  obtain ⟨hk, he⟩ := List.getElem?_eq_some_iff.1 h
  rw [accU, accU, List.drop_eq_getElem_cons hk, he, List.reverse_cons, List.flatMap_append]
  simp
theorem accU_len {ls : List SE} {B j : Nat} (h : ∀ s ∈ ls, s.xs.length ≤ B) : (accU ls j).length ≤ ls.length * B := by
  refine Nat.le_trans (flat_lenB (B := B) fun s hs => h s (List.mem_of_mem_drop (List.mem_reverse.1 hs))) ?_
  refine Nat.mul_le_mul_right B ?_
  rw [List.length_reverse, List.length_drop]
  omega
set_option maxHeartbeats 1000000 in
theorem g13union_s {a : Option Addr} {c : Nat} {ls : List SE} (hx : RLs w0 H a c ls) (hl : ls.length ≤ 100) (hs : ∀ s ∈ ls, s.xs.length ≤ 2147483647) (hsm : ∀ s ∈ ls, ∀ e ∈ s.xs, e.k.length ≤ 140737488355328 ∧ e.v.length ≤ 140737488355328) :
    FnS Tryz.prog w0 H 29 #[.slice a ls.length c] (fun v H' => ∃ a' c' out s, v = .slice a' (out : List KV).length c' ∧ Mrg (ls.reverse.flatMap SE.xs) s ∧ out.map KV.p = (lastsE s).map KV.p ∧ H' = ol 51 a' c' out :: stars oKVs out :: H) := by
  refine fns_enter Tryz.func29 rfl rfl rfl ?_
  have hsl := hx.sl
  refine sx ?_
  refine s_rwC (t := 3) (v' := .slice none (accU ls ls.length).length 0) rfl (by simp [accU]) ?_
  refine s_loop (fun q : UnA => [(0, .slice a ls.length c), (3, .slice q.a (accU ls q.j).length q.c), (4, .int .i64 ((q.j : Int) - 1))]) (fun q => ol 51 q.a q.c (accU ls q.j) :: H) (fun q => q.j ≤ ls.length) (fun q => q.j) ⟨ls.length, none, 0⟩ (Nat.le_refl _) ?_ (he := by simp only [accU, List.drop_length]; exact Ent.nilS)
  rintro ⟨j, pa, pc⟩ h1
  simp only at h1 ⊢
  have hal := accU_len (j := j) hs
  have hal2 : ls.length * 2147483647 ≤ 214748364700 := by omega
  refine sx ?_
  refine s_if rfl (fun t1 => ?_) (fun t1 => ?_)
  · obtain ⟨k, rfl⟩ : ∃ k, j = k + 1 := ⟨j - 1, by omega⟩
    obtain ⟨s, hs1⟩ := get_lt ls k (by omega)
    have hm := List.mem_of_getElem? hs1
    have hsx := hs s hm
    have r1 := (hx.el s hm).1.tl (d := ol 51 pa pc (accU ls (k + 1)))
    have hsl2 := hsl.tl (d := ol 51 pa pc (accU ls (k + 1)))
    refine s_rwC (t := 4) (v' := .int .i64 (k : Int)) rfl (ci (by omega)) ?_
    refine sx ?_
    refine s_app (xs := accU ls (k + 1)) (ys := s.xs) ?_ (hby := by omega)
    intro a4 c4
    rw [← accU_step hs1]
    refine sx ?_
    exact s_again ⟨k, a4, c4⟩ (by simp only; omega) (by simp only; omega)
  · obtain rfl : j = 0 := by omega
    refine sx ?_
    have e0 : accU ls 0 = ls.reverse.flatMap SE.xs := rfl
    have hel : ∀ e ∈ accU ls 0, ∃ s ∈ ls, e ∈ s.xs := fun e he => by
      rw [e0] at he
      obtain ⟨s, h1, h2⟩ := List.mem_flatMap.1 he
      exact ⟨s, List.mem_reverse.1 h1, h2⟩
    refine s_call rfl (rmap_s (es := accU ls 0) (by omega) RSl.hd (fun e he => by
      obtain ⟨s, h1, h2⟩ := hel e he
      exact ((hx.el s h1).2 e h2).tl) (fun e he => by
      obtain ⟨s, h1, h2⟩ := hel e he
      exact hsm s h1 e h2)) ?_
    rintro _ _ ⟨a', c', out, s, rfl, hM, ho, rfl⟩
    refine ⟨chk_seq, ?_⟩
    refine sx ?_
    exact s_ret1 rfl rfl ⟨a', c', out, s, rfl, by rw [← e0]; exact hM, ho, rfl⟩ (by exact ent)
structure FlA where
  i : Nat
  a : Option Addr
  c : Nat
def fltR (r : Rg) (es : List KV) : List KV := es.filter fun e => hasB r.d e.k
theorem flt_step {r : Rg} {es : List KV} {i : Nat} {e : KV} (h : es[i]? = some e) : fltR r (es.take (i + 1)) = if hasB r.d e.k then fltR r (es.take i) ++ [e] else fltR r (es.take i) := by
  rw [snocT h, fltR, List.filter_append, fltR]
  by_cases g : hasB r.d e.k = true <;> simp [g]
set_option maxHeartbeats 1000000 in
theorem g13within_s {a : Option Addr} {c : Nat} {es : List KV} {r : Rg} (hx : RSl w0 H a c es) (hr : ∀ e ∈ es, REe w0 H e) (hrr : RRg w0 H r) (hl : es.length ≤ 549755813888) (hsm : SmL (es.map KV.p)) :
    FnS Tryz.prog w0 H 34 #[.slice a es.length c, .agg r.cells.toArray] (fun v H' => ∃ a' c' out, v = .slice a' (out : List KV).length c' ∧ out.map KV.p = (es.map KV.p).filter (fun p => hasB r.d p.1) ∧ H' = oL a' c' out H) := by
  refine fns_enter Tryz.func34 rfl rfl rfl ?_
  refine sx ?_
  refine s_boxA rfl fun b3 => ?_
  refine sx ?_
  refine s_loop (fun q : FlA => [(0, .slice a es.length c), (3, .pointer (some ⟨b3, 0, none⟩)), (5, .slice q.a (fltR r (es.take q.i)).length q.c), (6, .int .i64 q.i)]) (fun q => ol 51 q.a q.c (fltR r (es.take q.i)) :: .hb b3 57 r.cells :: H) (fun q => q.i ≤ es.length) (fun q => es.length - q.i) ⟨0, none, 0⟩ (Nat.zero_le _) ?_ (he := Ent.nilS)
  rintro ⟨i, pa, pc⟩ h1
  simp only at h1 ⊢
  have hfl : (fltR r (es.take i)).length ≤ es.length := Nat.le_trans (List.length_filter_le _ _) (by rw [List.length_take]; omega)
  refine sx ?_
  refine s_if rfl (fun t1 => ?_) (fun t1 => ?_)
  · obtain ⟨e, he⟩ := get_lt es i (by omega)
    have re := hr e (List.mem_of_getElem? he)
    have hxt := hx.tl (d := .hb b3 57 r.cells)
    have hxt2 := hxt.tl (d := ol 51 pa pc (fltR r (es.take i)))
    refine sx ?_
    refine s_drH (.hb b3 57 r.cells :: H) (.one true 0 (.one true 1 (.one true 2 (.one true 3 (.one true 4 (.one true 5 (.one false 6 (.one true 7 .nil)))))))) mixed (by kernel_rfl) ?_ (he := Ent.tl Ent.refl)
    refine sx ?_
    have hq := qhas_s (H := ol 51 pa pc (fltR r (es.take i)) :: .hb b3 57 r.cells :: H) (r := r) (key := e.k) (hrr.tl (d := .hb b3 57 r.cells)).tl (re.k.tl (d := .hb b3 57 r.cells)).tl
    have hst := flt_step (r := r) he
    by_cases t2 : hasB r.d e.k = true
    · rw [if_pos t2] at hst
      rw [t2] at hq
      refine s_callV rfl hq ?_
      refine sx ?_
      refine s_bsl [e] rfl rfl fun b27 => ?_
      refine s_app (xs := fltR r (es.take i)) (ys := [e]) ?_ (hby := by simp only [List.length_cons, List.length_nil]; omega)
      intro a4 c4
      rw [← hst]
      refine sx ?_
      exact s_again ⟨i + 1, a4, c4⟩ (by simp only; omega) (by simp only; omega) (he := by exact ent)
    · rw [if_neg t2] at hst
      rw [eq_false_of_ne_true t2] at hq
      refine s_callV rfl hq ?_
      refine sx ?_
      refine s_rwQ (t := 5) (v' := .slice pa (fltR r (es.take (i + 1))).length pc) rfl (by rw [hst]) ?_
      exact s_again ⟨i + 1, pa, pc⟩ (by simp only; omega) (by simp only; omega) (he := by simp only [hst]; exact Ent.refl)
  · obtain rfl : i = es.length := by omega
    rw [List.take_length] at hfl ⊢
    refine sx ?_
    have hsub : ∀ e ∈ fltR r es, e ∈ es := fun e he => (List.mem_filter.1 he).1
    refine s_call rfl (g13copy_s (es := fltR r es) RSl.hd (fun e he => (hr e (hsub e he)).tl.tl) (by omega) (fun p hp => by
      obtain ⟨e, he, rfl⟩ := List.mem_map.1 hp
      exact hsm _ (List.mem_map_of_mem (hsub e he)))) ?_
    rintro _ _ ⟨a', c', out, rfl, ho, rfl⟩
    refine ⟨chk_seq, ?_⟩
    refine sx ?_
    refine s_ret1 rfl rfl ⟨a', c', out, rfl, ?_, rfl⟩ (by exact ent)
    rw [ho, fltR, List.filter_map]
    rfl
end Go.Sx
namespace Go.Sx
open Go Go.Proofs
set_option maxRecDepth 10000
variable {w0 : World} {H : List Ck}
/-- Keys, each above the one ahead. -/
abbrev RiB (l : List SB) : Prop := l.Pairwise fun a b => cmp a.xs b.xs < 0
def mrgU : List SB → List SB → List SB
  | [], qs => qs
  | a :: ps, [] => a :: ps
  | a :: ps, b :: qs => if cmp a.xs b.xs < 0 then a :: mrgU ps (b :: qs) else if cmp a.xs b.xs = 0 then a :: mrgU ps qs else b :: mrgU (a :: ps) qs
termination_by ps qs => ps.length + qs.length
theorem mrgU_nil (ps : List SB) : mrgU ps [] = ps := by cases ps <;> simp [mrgU]
theorem mrgU_mem {s : SB} : ∀ (ps qs : List SB), s ∈ mrgU ps qs → s ∈ ps ∨ s ∈ qs
  | [], qs, h => by simp only [mrgU] at h; exact .inr h
  | a :: ps, [], h => by simp only [mrgU] at h; exact .inl h
  | a :: ps, b :: qs, h => by
    simp only [mrgU] at h
    split at h
    · rcases List.mem_cons.1 h with rfl | h
      · simp
      · rcases mrgU_mem ps (b :: qs) h with h | h
        · simp [h]
        · exact .inr h
    · split at h
      · rcases List.mem_cons.1 h with rfl | h
        · simp
        · rcases mrgU_mem ps qs h with h | h <;> simp [h]
      · rcases List.mem_cons.1 h with rfl | h
        · simp
        · rcases mrgU_mem (a :: ps) qs h with h | h
          · exact .inl h
          · simp [h]
termination_by ps qs => ps.length + qs.length
theorem mrgU_key {k : Bs} : ∀ (ps qs : List SB), k ∈ (mrgU ps qs).map SB.xs ↔ k ∈ ps.map SB.xs ∨ k ∈ qs.map SB.xs
  | [], qs => by simp [mrgU]
  | a :: ps, [] => by simp [mrgU]
  | a :: ps, b :: qs => by
    simp only [mrgU]
    split
    · rw [List.map_cons, List.mem_cons, mrgU_key ps (b :: qs), List.map_cons, List.mem_cons, List.map_cons, List.mem_cons]
      constructor
      · rintro (h | h | h | h) <;> simp [h]
      · rintro ((h | h) | h | h) <;> simp [h]
    · split
      · rename_i he
        have he := (cmp_eq _ _).1 he
        rw [List.map_cons, List.mem_cons, mrgU_key ps qs, List.map_cons, List.mem_cons, List.map_cons, List.mem_cons]
        constructor
        · rintro (h | h | h) <;> simp [h]
        · rintro ((h | h) | h | h)
          · simp [h]
          · simp [h]
          · rw [← he] at h; simp [h]
          · simp [h]
      · rw [List.map_cons, List.mem_cons, mrgU_key (a :: ps) qs, List.map_cons, List.mem_cons, List.map_cons, List.mem_cons]
        constructor
        · rintro (h | (h | h) | h) <;> simp [h]
        · rintro ((h | h) | h | h) <;> simp [h]
termination_by ps qs => ps.length + qs.length
theorem mrgU_up : ∀ (ps qs : List SB), RiB ps → RiB qs → RiB (mrgU ps qs)
  | [], qs, _, h => by simp only [mrgU]; exact h
  | a :: ps, [], h, _ => by simp only [mrgU]; exact h
  | a :: ps, b :: qs, ha, hb => by
    obtain ⟨a1, a2⟩ := List.pairwise_cons.1 ha
    obtain ⟨b1, b2⟩ := List.pairwise_cons.1 hb
    simp only [mrgU]
    split
    · rename_i hc
      refine List.pairwise_cons.2 ⟨fun s hs => ?_, mrgU_up ps (b :: qs) a2 hb⟩
      rcases mrgU_mem _ _ hs with h | h
      · exact a1 s h
      · rcases List.mem_cons.1 h with rfl | h
        · exact hc
        · exact lt_tr hc (by have := b1 s h; omega)
    · split
      · rename_i hc he
        refine List.pairwise_cons.2 ⟨fun s hs => ?_, mrgU_up ps qs a2 b2⟩
        rcases mrgU_mem _ _ hs with h | h
        · exact a1 s h
        · have := b1 s h
          rw [(cmp_eq _ _).1 he]
          exact this
      · rename_i hc he
        have hlt : cmp b.xs a.xs < 0 := by have := cmp_anti a.xs b.xs; omega
        refine List.pairwise_cons.2 ⟨fun s hs => ?_, mrgU_up (a :: ps) qs ha b2⟩
        rcases mrgU_mem _ _ hs with h | h
        · rcases List.mem_cons.1 h with rfl | h
          · exact hlt
          · exact lt_tr hlt (by have := a1 s h; omega)
        · exact b1 s h
termination_by ps qs => ps.length + qs.length
structure SrI where
  i : Nat
  k : Nat
  a : Option Addr
  c : Nat
  os : List SB
abbrev SrtR (w0 : World) (ks : List SB) (H : List Ck) : Value → List Ck → Prop := fun v H' => ∃ a c os L, v = .slice a (os : List SB).length c ∧ RiB os ∧ (∀ key, key ∈ os.map SB.xs ↔ key ∈ ks.map SB.xs) ∧ (∀ s ∈ os, s ∈ ks) ∧ os.length ≤ ks.length ∧ H' = .star L :: H ∧ RSl w0 H' a c os
set_option maxHeartbeats 4000000 in
theorem rsorted_s : ∀ (n : Nat) {H : List Ck} {b : Option Addr} {d : Nat} {ks : List SB}, RSl w0 H b d ks → (∀ s ∈ ks, RBy w0 H s.a s.c s.xs) → ks.length ≤ n → ks.length ≤ 549755813888 →
    FnS Tryz.prog w0 H 116 #[.slice b ks.length d] (SrtR w0 ks H) := by
  intro n
  induction n with
  | zero =>
    intro H b d ks hy hr hn hm
    obtain rfl : ks = [] := List.eq_nil_of_length_eq_zero (by omega)
    refine fns_enter Tryz.func116 rfl rfl rfl ?_
    refine sx ?_
    exact s_ret1 rfl rfl ⟨b, d, [], [], rfl, List.Pairwise.nil, fun _ => Iff.rfl, fun _ h => h, Nat.le_refl _, rfl, hy.tl⟩ Ent.star0
  | succ n ih =>
    intro H b d ks hy hr hn hm
    refine fns_enter Tryz.func116 rfl rfl rfl ?_
    refine s_kn (Kn.sl hy) fun ⟨l1, l2⟩ => ?_
    simp only [maxLen] at l2
    refine sx ?_
    refine s_if rfl (fun t1 => ?_) (fun t1 => ?_)
    · refine sx ?_
      refine s_ret1 rfl rfl ⟨b, d, ks, [], rfl, ?_, fun _ => Iff.rfl, fun _ h => h, Nat.le_refl _, rfl, hy.tl⟩ Ent.star0
      rcases ks with _ | ⟨x, _ | ⟨y, r⟩⟩
      · exact List.Pairwise.nil
      · exact List.pairwise_singleton _ _
      · simp only [List.length_cons] at t1; omega
    refine sx ?_
    obtain ⟨m, hm2⟩ : ∃ m, m = ks.length / 2 := ⟨_, rfl⟩
    refine s_rw (t := 16) (v' := .int .i64 (m : Int)) rfl (by rw [hm2]; norm_cast) ?_
    refine s_yS rfl rfl rfl (y_slT (k := m) rfl rfl (by omega)) ?_
    have hlt : (ks.take m).length = m := by rw [List.length_take]; omega
    have hld : (ks.drop m).length = ks.length - m := List.length_drop
    have c1 := ih (hy.take (k := m) (by omega)) (fun s hs => hr s (List.mem_of_mem_take hs)) (by omega) (by omega)
    rw [hlt] at c1
    refine sx ?_
    refine s_call rfl c1 ?_
    rintro _ _ ⟨pa, pc, A, LA, rfl, hA1, hA2, hA3, hA4, rfl, hRA⟩
    refine ⟨chk_seq, ?_⟩
    refine sx ?_
    refine s_rw (t := 22) (v' := .int .i64 (m : Int)) rfl (by rw [hm2]; norm_cast) ?_
    refine s_yS rfl rfl rfl (y_slF (k := m) rfl rfl (by omega)) ?_
    have c2 := ih (H := .star LA :: H) (hy.drop (j := m) (by omega)).tl (fun s hs => (hr s (List.mem_of_mem_drop hs)).tl) (by omega) (by omega)
    rw [hld] at c2
    refine sx ?_
    refine s_call rfl c2 ?_
    rintro _ _ ⟨qa, qc, B, LB, rfl, hB1, hB2, hB3, hB4, rfl, hRB⟩
    refine ⟨chk_seq, ?_⟩
    have hlA : A.length ≤ m := by omega
    have hlB : B.length ≤ ks.length - m := by omega
    have hrA : ∀ s ∈ A, RBy w0 H s.a s.c s.xs := fun s hs => hr s (List.mem_of_mem_take (hA3 s hs))
    have hrB : ∀ s ∈ B, RBy w0 H s.a s.c s.xs := fun s hs => hr s (List.mem_of_mem_drop (hB3 s hs))
    refine sx ?_
    refine s_loop (fun q : SrI => [(3, .slice pa A.length pc), (4, .slice qa B.length qc), (5, .slice q.a q.os.length q.c), (6, .int .i64 q.i), (7, .int .i64 q.k)]) (fun q => ol 49 q.a q.c q.os :: .star LB :: .star LA :: H) (fun q => q.i ≤ A.length ∧ q.k ≤ B.length ∧ q.os.length ≤ q.i + q.k ∧ q.os ++ mrgU (A.drop q.i) (B.drop q.k) = mrgU A B) (fun q => (A.length - q.i) + (B.length - q.k)) ⟨0, 0, none, 0, []⟩ ⟨Nat.zero_le _, Nat.zero_le _, Nat.le_refl _, by simp⟩ ?_ (he := Ent.nilS)
    rintro ⟨i, k, oa, oc, os⟩ ⟨g1, g2, g3, g4⟩
    simp only at g1 g2 g3 g4 ⊢
    have hRA' : RSl w0 (ol 49 oa oc os :: .star LB :: .star LA :: H) pa pc A := hRA.tl.tl
    have hRB' : RSl w0 (ol 49 oa oc os :: .star LB :: .star LA :: H) qa qc B := hRB.tl
    rcases Nat.lt_or_ge i A.length with u1 | u1
    · obtain ⟨x, hxa⟩ := get_lt A i u1
      have hrx : RBy w0 (ol 49 oa oc os :: .star LB :: .star LA :: H) x.a x.c x.xs := (hrA x (List.mem_of_getElem? hxa)).tl.tl.tl
      rcases Nat.lt_or_ge k B.length with u2 | u2
      · obtain ⟨y, hyb⟩ := get_lt B k u2
        have hry : RBy w0 (ol 49 oa oc os :: .star LB :: .star LA :: H) y.a y.c y.xs := (hrB y (List.mem_of_getElem? hyb)).tl.tl.tl
        have hml : mrgU (A.drop i) (B.drop k) = if cmp x.xs y.xs < 0 then x :: mrgU (A.drop (i + 1)) (B.drop k) else if cmp x.xs y.xs = 0 then x :: mrgU (A.drop (i + 1)) (B.drop (k + 1)) else y :: mrgU (A.drop i) (B.drop (k + 1)) := by
          rw [dropG hxa, dropG hyb]
          simp only [mrgU]
        refine sx ?_
        refine s_rw (t := 29) (v' := .bool true) rfl (congrArg Value.bool (decide_eq_true (by omega))) ?_
        refine sx ?_
        refine s_if rfl (fun t => absurd t (by omega)) (fun _ => ?_)
        refine sx ?_
        refine s_if rfl (fun t => absurd t (by omega)) (fun _ => ?_)
        refine sx ?_; refine s_dr (.one true 0 (.one true 1 (.one true 2 (.one true 3 (.one true 4 (.one true 5 (.one true 6 (.one true 7 (.one false 8 (.one true 9 .nil)))))))))) mixed (by kernel_rfl) ?_; refine sx ?_
        refine s_callV rfl (qcmp_s (xs := x.xs) (ys := y.xs) (by exact rby) (by exact rby)) ?_
        refine sx ?_
        rcases Int.lt_trichotomy (cmp x.xs y.xs) 0 with t3 | t3 | t3
        · rw [if_pos t3] at hml
          refine s_if rfl (fun _ => ?_) (fun t => absurd (by omega) t)
          refine sx ?_
          refine s_bsl [x] rfl rfl fun b77 => ?_
          refine s_app (xs := os) (ys := [x]) ?_ (hby := by simp only [List.length_cons, List.length_nil]; omega)
          intro a4 c4
          refine sx ?_
          refine s_if rfl (fun t => absurd t (by omega)) (fun _ => ?_)
          refine sx ?_
          refine s_if rfl (fun t => absurd t (by omega)) (fun _ => ?_)
          refine sx ?_
          refine s_again ⟨i + 1, k, a4, c4, os ++ [x]⟩ ⟨by simp only; omega, by simp only; omega, by simp only [List.length_append, List.length_cons, List.length_nil]; omega, ?_⟩ (by simp only; omega)
          simp only
          rw [← g4, hml, List.append_assoc]
          rfl
        · rw [if_neg (by omega), if_pos t3] at hml
          refine s_if rfl (fun _ => ?_) (fun t => absurd (by omega) t)
          refine sx ?_
          refine s_bsl [x] rfl rfl fun b77 => ?_
          refine s_app (xs := os) (ys := [x]) ?_ (hby := by simp only [List.length_cons, List.length_nil]; omega)
          intro a4 c4
          refine sx ?_
          refine s_if rfl (fun _ => ?_) (fun t => absurd t3 t)
          refine sx ?_
          refine s_if rfl (fun t => absurd t (by omega)) (fun _ => ?_)
          refine sx ?_
          refine s_again ⟨i + 1, k + 1, a4, c4, os ++ [x]⟩ ⟨by simp only; omega, by simp only; omega, by simp only [List.length_append, List.length_cons, List.length_nil]; omega, ?_⟩ (by simp only; omega)
          simp only
          rw [← g4, hml, List.append_assoc]
          rfl
        · rw [if_neg (by omega), if_neg (by omega)] at hml
          refine s_if rfl (fun t => absurd t (by omega)) (fun _ => ?_)
          refine sx ?_
          refine s_if rfl (fun t => absurd t (by omega)) (fun _ => ?_)
          refine sx ?_
          refine s_if rfl (fun _ => ?_) (fun t => absurd t3 t)
          refine sx ?_
          refine s_bsl [y] rfl rfl fun b77 => ?_
          refine s_app (xs := os) (ys := [y]) ?_ (hby := by simp only [List.length_cons, List.length_nil]; omega)
          intro a4 c4
          refine sx ?_
          refine s_again ⟨i, k + 1, a4, c4, os ++ [y]⟩ ⟨by simp only; omega, by simp only; omega, by simp only [List.length_append, List.length_cons, List.length_nil]; omega, ?_⟩ (by simp only; omega)
          simp only
          rw [← g4, hml, List.append_assoc]
          rfl
      · obtain rfl : k = B.length := by omega
        have hml : mrgU (A.drop i) (B.drop B.length) = x :: mrgU (A.drop (i + 1)) (B.drop B.length) := by
          rw [List.drop_length, mrgU_nil, mrgU_nil]
          exact dropG hxa
        refine sx ?_
        refine s_rw (t := 29) (v' := .bool true) rfl (congrArg Value.bool (decide_eq_true (by omega))) ?_
        refine sx ?_
        refine s_bsl [x] rfl rfl fun b77 => ?_
        refine s_app (xs := os) (ys := [x]) ?_ (hby := by simp only [List.length_cons, List.length_nil]; omega)
        intro a4 c4
        refine sx ?_
        refine s_again ⟨i + 1, B.length, a4, c4, os ++ [x]⟩ ⟨by simp only; omega, by simp only; omega, by simp only [List.length_append, List.length_cons, List.length_nil]; omega, ?_⟩ (by simp only; omega)
        simp only
        rw [← g4, hml, List.append_assoc]
        rfl
    · obtain rfl : i = A.length := by omega
      rcases Nat.lt_or_ge k B.length with u2 | u2
      · obtain ⟨y, hyb⟩ := get_lt B k u2
        have hml : mrgU (A.drop A.length) (B.drop k) = y :: mrgU (A.drop A.length) (B.drop (k + 1)) := by
          rw [List.drop_length]
          simp only [mrgU]
          exact dropG hyb
        refine sx ?_
        refine s_rw (t := 29) (v' := .bool false) rfl (congrArg Value.bool (decide_eq_false (by omega))) ?_
        refine sx ?_
        refine s_if rfl (fun _ => ?_) (fun t => absurd (by omega) t)
        refine sx ?_
        refine s_if rfl (fun t => absurd t (by omega)) (fun _ => ?_)
        refine sx ?_
        refine s_bsl [y] rfl rfl fun b77 => ?_
        refine s_app (xs := os) (ys := [y]) ?_ (hby := by simp only [List.length_cons, List.length_nil]; omega)
        intro a4 c4
        refine sx ?_
        refine s_again ⟨A.length, k + 1, a4, c4, os ++ [y]⟩ ⟨by simp only; omega, by simp only; omega, by simp only [List.length_append, List.length_cons, List.length_nil]; omega, ?_⟩ (by simp only; omega)
        simp only
        rw [← g4, hml, List.append_assoc]
        rfl
      · obtain rfl : k = B.length := by omega
        refine sx ?_
        refine s_rw (t := 29) (v' := .bool false) rfl (congrArg Value.bool (decide_eq_false (by omega))) ?_
        refine sx ?_
        refine s_if rfl (fun t => absurd t (by omega)) (fun _ => ?_)
        refine sx ?_
        have hos : os = mrgU A B := by
          rw [← g4, List.drop_length, List.drop_length]
          simp [mrgU]
        refine s_ret1 rfl rfl ⟨oa, oc, os, [ol 49 oa oc os, .star LB, .star LA], rfl, ?_, ?_, ?_, by omega, rfl, ?_⟩ ?_
        · rw [hos]; exact mrgU_up _ _ hA1 hB1
        · intro key
          rw [hos, mrgU_key, hA2, hB2]
          have h0 : ks.map SB.xs = (ks.take m).map SB.xs ++ (ks.drop m).map SB.xs := by rw [← List.map_append, List.take_append_drop]
          rw [h0, List.mem_append]
        · intro s hs
          rw [hos] at hs
          rcases mrgU_mem _ _ hs with h | h
          · exact List.mem_of_mem_take (hA3 s h)
          · exact List.mem_of_mem_drop (hB3 s h)
        · exact RSl.ent (H' := ol 49 oa oc os :: .star LB :: .star LA :: H) RSl.hd (Ent.open Ent.refl)
        · exact Ent.star (L := [ol 49 oa oc os, .star LB, .star LA]) Ent.refl
end Go.Sx

