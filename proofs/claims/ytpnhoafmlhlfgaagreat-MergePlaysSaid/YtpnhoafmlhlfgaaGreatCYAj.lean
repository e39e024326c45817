/- Part of a proof: several parts of a walk, one behind the other. -/
import Derived.Test.YtpnhoafmlhlfgaaGreatCKB
import Derived.Test.YtpnhoafmlhlfgaaGreatCGH
import Derived.Test.YtpnhoafmlhlfgaaGreatCGK
import Derived.Test.YtpnhoafmlhlfgaaGreatCZI
import Derived.Test.YtpnhoafmlhlfgaaGreatCPCj
namespace Go.Sx
open Go Go.Proofs
set_option maxRecDepth 10000
variable {w0 : World} {H : List Ck}
end Go.Sx
namespace Go.Sx
open Go Go.Proofs
set_option maxRecDepth 10000
variable {w0 : World} {H : List Ck}
abbrev x5 : MD := ⟨5, 2, [97], [], []⟩
abbrev y1 : MD := ⟨1, 1, [98], [], [120]⟩
abbrev y2 : MD := ⟨2, 3, [97], [99], []⟩
abbrev z1 : MD := ⟨2, 1, [97], [], [120]⟩
abbrev z2 : MD := ⟨2, 2, [98], [], []⟩
theorem RMg.of {m : Mg} {L : List Ck} {H' : List Ck} (h : ∀ H0, RMg w0 (.star L :: H0) m) (e : Ent H' [.star L]) : RMg w0 H' m := RMg.ent (h []) e
end Go.Sx
namespace Go.Sx
open Go Go.Proofs
set_option maxRecDepth 10000
variable {w0 : World} {H : List Ck}
end Go.Sx
namespace Go.Sx
open Go Go.Proofs
set_option maxRecDepth 10000
variable {w0 : World} {H : List Ck}
theorem IsApp.get {l : List KV} {ms : List MD} {out : List KV} (h : IsApp l ms out) (key : Bs) : getE out key = appO (getE l key) (getM ms key) := by
  rcases g : getE out key with _ | v
  · rcases k : appO (getE l key) (getM ms key) with _ | v
    · rfl
    · obtain ⟨e, he, e1, _⟩ := (h.eq key v).2 k
      exact absurd e1 (getE_none.1 g e he)
  · exact ((h.eq key v).1 (getE_some g)).symm
end Go.Sx
namespace Go.Sx
open Go Go.Proofs
set_option maxRecDepth 10000
variable {w0 : World} {H : List Ck}
end Go.Sx
namespace Go.Sx
open Go Go.Proofs
set_option maxRecDepth 10000
variable {w0 : World} {H : List Ck}
/-- What is read of a piece. -/
structure RPc (w0 : World) (H : List Ck) (p : Pc) : Prop where
  key : RBy w0 H p.ka p.kc p.key
  v : RBy w0 H p.va p.vc p.v
  g : RRg w0 H p.g
theorem RPc.tl {p : Pc} {d : Ck} (h : RPc w0 H p) : RPc w0 (d :: H) p := ⟨h.key.tl, h.v.tl, h.g.tl⟩
theorem RPc.ent {p : Pc} {H' : List Ck} (h : RPc w0 H' p) (e : Ent H H') : RPc w0 H p := ⟨h.key.ent e, h.v.ent e, ⟨h.g.lo.ent e, h.g.hi.ent e⟩⟩
theorem RPc.oP {p : Pc} : RPc w0 (oP p ++ H) p := ⟨RBy.hd, RBy.hd.tl, ⟨RBy.hd.tl.tl, RBy.hd.tl.tl.tl⟩⟩
theorem RPc.st {ps : List Pc} {p : Pc} (h : p ∈ ps) : RPc w0 (stars Go.Sx.oP ps :: H) p := (RPc.oP (H := [])).ent (by rw [List.append_nil]; exact stars_mem h)
theorem RcA.slgo {α : Type} {_i : Cel α} {sz o n : Nat} {a : Option Addr} {c : Nat} {xs : List α} (h : RSl w0 H a c xs) {i : Nat} {x : α} (hx : xs[i]? = some x) (hz : sz = Cel.sz α) : RcA w0 H (((Sx.gA a).add (i * sz)).add o) (((Cel.f x).drop o).take n) := fun w hs j v hv => by
  have h1 := RcA.slg h hx hz w hs
  rw [add_add]
  refine h1 (o + j) v ?_
  rw [List.getElem?_take] at hv
  split at hv
  · rwa [List.getElem?_drop] at hv
  · cases hv
theorem y_ldG {P : Program} {l : List (Nat × Value)} {d : Option Tmp} {ty : TypeId} {pos : String} {af : Array Edge} {g : Option (Nat × Bool)} {x : Operand} {T : TypeId} [h : AgT P T 3] {a : Option Addr} {c i : Nat} {ps : List Pc} {p : Pc} (hx : ev l x = some (.pointer (some (((Sx.gA a).add (i * 6)).add 3)))) (hs : RSl w0 H a c ps) (hp : ps[i]? = some p) :
    Y P (Sat w0 H) ⟨d, .load T x, ty, pos, af, g⟩ l (.agg p.g.cells.toArray) := y_ldA hx (RcA.slgo (n := 3) hs hp rfl) rfl
end Go.Sx
namespace Go.Sx
open Go Go.Proofs
set_option maxRecDepth 10000
variable {w0 : World} {H : List Ck}
end Go.Sx
namespace Go.Sx
open Go Go.Proofs
set_option maxRecDepth 10000
variable {w0 : World} {H : List Ck}
/-- The keys of which a message says something. -/
theorem rrange7_s {m : Mg} (hm : RMg w0 H m) (h1 : m.lo.length ≤ 140737488355327) (h2 : m.hi.length ≤ 140737488355328) : FnS Tryz.prog w0 H 114 #[.agg m.cells.toArray] (fun v H' => ∃ (r : Rg) (L : List Ck), v = .agg r.cells.toArray ∧ r.d = foR (saidR m.d) ∧ H' = .star L :: H ∧ ∀ H0, RMg w0 H0 m → RRg w0 (.star L :: H0) r) := by
  refine fns_enter Tryz.func114 rfl rfl rfl ?_
  have hlo := hm.lo
  have hhi := hm.hi
  have hone : m.kd = 1 ∨ m.kd = 2 → foR (saidR m.d) = (m.lo, m.lo ++ [0], false) := fun h => by
    have h3 : ¬ emR (saidR m.d) = true := fun g => has_em g (key := m.lo) (by rw [said_one h, has_one])
    rw [(said_form m.d).resolve_right h3, said_one h]
  refine sx ?_
  refine s_boxA rfl fun b1 => ?_
  refine sx ?_
  refine s_alloc fun b2 => ?_
  refine sx ?_
  refine s_if rfl (fun t1 => ?_) (fun t1 => ?_)
  · refine sx ?_
    refine s_if rfl (fun _ => ?_) (fun g => absurd t1 g)
    refine sx ?_; refine s_drR (.hb b2 57 [.slice none 0 0, .slice none 0 0, .bool false]) (by exact rm) (.one true 0 (.one true 1 (.one true 2 (.one true 3 (.one false 4 (.one true 5 (.one false 6 .nil))))))) mixed (by kernel_rfl) ?_; refine sx ?_
    refine s_call rfl (qnext_s (xs := m.lo) hlo.tl.tl h1) ?_
    rintro _ _ ⟨na, nc, rfl, rfl⟩
    refine ⟨chk_held (Ent.tl (Ent.tl Ent.refl)), ?_⟩
    refine sx ?_
    exact s_retc rfl rfl (by exact at_) rfl ⟨⟨m.la, m.lc, m.lo, na, nc, m.lo ++ [0], false⟩, [ob na nc (m.lo ++ [0])], rfl, (hone (.inl t1)).symm, rfl, fun H0 h => ⟨h.lo.tl, RBy.ent (H' := ob na nc (m.lo ++ [0]) :: H0) RBy.hd (Ent.open Ent.refl)⟩⟩ (Ent.trans (H' := ob na nc (m.lo ++ [0]) :: H) (by exact ent) (Ent.star Ent.refl))
  refine sx ?_
  refine s_if rfl (fun t2 => ?_) (fun t2 => ?_)
  · skip
    refine sx ?_; refine s_drR (.hb b2 57 [.slice none 0 0, .slice none 0 0, .bool false]) (by exact rm) (.one true 0 (.one true 1 (.one true 2 (.one true 3 (.one false 4 (.one true 5 (.one false 6 .nil))))))) mixed (by kernel_rfl) ?_; refine sx ?_
    refine s_call rfl (qnext_s (xs := m.lo) hlo.tl.tl h1) ?_
    rintro _ _ ⟨na, nc, rfl, rfl⟩
    refine ⟨chk_held (Ent.tl (Ent.tl Ent.refl)), ?_⟩
    refine sx ?_
    exact s_retc rfl rfl (by exact at_) rfl ⟨⟨m.la, m.lc, m.lo, na, nc, m.lo ++ [0], false⟩, [ob na nc (m.lo ++ [0])], rfl, (hone (.inr t2)).symm, rfl, fun H0 h => ⟨h.lo.tl, RBy.ent (H' := ob na nc (m.lo ++ [0]) :: H0) RBy.hd (Ent.open Ent.refl)⟩⟩ (Ent.trans (H' := ob na nc (m.lo ++ [0]) :: H) (by exact ent) (Ent.star Ent.refl))
  refine sx ?_
  refine s_if rfl (fun t3 => ?_) (fun t3 => ?_)
  · refine sx ?_
    refine s_rw (t := 20) (v' := .agg (Rg.cells ⟨m.la, m.lc, m.lo, m.ha, m.hc, m.hi, false⟩).toArray) rfl rfl ?_
    refine s_call rfl (qform_s (r := ⟨m.la, m.lc, m.lo, m.ha, m.hc, m.hi, false⟩) ⟨hlo.tl.tl, hhi.tl.tl⟩ ⟨by show m.lo.length ≤ _; omega, h2⟩) ?_
    rintro _ _ ⟨r, rfl, hrd, rfl⟩
    refine ⟨chk_seq, ?_⟩
    refine sx ?_
    have e : r.d = foR (saidR m.d) := by rw [hrd, said_cut (m := m.d) t3]
    have hrr : ∀ H0, RRg w0 (oR r :: H0) r := fun H0 => rrg
    exact s_retc rfl rfl (by exact at_) rfl ⟨r, [oR r], rfl, e, rfl, fun H0 _ => ⟨(hrr H0).lo.ent (Ent.open Ent.refl), (hrr H0).hi.ent (Ent.open Ent.refl)⟩⟩ (Ent.trans (H' := oR r :: H) (by exact ent) (Ent.star Ent.refl))
  · have e : saidR m.d = t30 := by unfold saidR; rw [if_neg (fun g => g.elim t1 t2), if_neg t3]
    refine sx ?_
    exact s_retc rfl rfl (by exact at_) rfl ⟨rg0, [], rfl, by rw [e]; unfold foR; rw [if_pos emR_t30], rfl, fun H0 _ => ⟨RBy.nil, RBy.nil⟩⟩ (Ent.trans (H' := H) (by exact ent) Ent.star0)
end Go.Sx

