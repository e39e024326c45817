/- Part of a proof: several parts of a walk, one behind the other. -/
import Derived.Test.YtpnhoafmlhlfgaaGreatCV0j
import Derived.Test.YtpnhoafmlhlfgaaGreatCKB
import Derived.Test.YtpnhoafmlhlfgaaGreatCMBj
import Derived.Test.YtpnhoafmlhlfgaaGreatCQBj
namespace Go.Sx
open Go Go.Proofs
set_option maxRecDepth 10000
variable {w0 : World} {H : List Ck}
structure Mg where
  st : Int
  kd : Int
  la : Option Addr
  lc : Nat
  lo : Bs
  ha : Option Addr
  hc : Nat
  hi : Bs
  va : Option Addr
  vc : Nat
  v : Bs
def Mg.cells (m : Mg) : List Value := [.int .u64 m.st, .int .i64 m.kd, .slice m.la m.lo.length m.lc, .slice m.ha m.hi.length m.hc, .slice m.va m.v.length m.vc]
abbrev Mg.d (m : Mg) : MD := ⟨m.st, m.kd, m.lo, m.hi, m.v⟩
instance : Cel Mg := ⟨5, Mg.cells, fun _ => rfl, fun _ => rfl, by decide⟩
instance : ElT Tryz.prog 71 Mg := ⟨trivial⟩
/-- Its bytes can be read. -/
structure RMg (w0 : World) (H : List Ck) (m : Mg) : Prop where
  lo : RBy w0 H m.la m.lc m.lo
  hi : RBy w0 H m.ha m.hc m.hi
  v : RBy w0 H m.va m.vc m.v
theorem RMg.tl {m : Mg} {d : Ck} (h : RMg w0 H m) : RMg w0 (d :: H) m := ⟨h.lo.tl, h.hi.tl, h.v.tl⟩
theorem RMg.ent {m : Mg} {H' : List Ck} (h : RMg w0 H' m) (e : Ent H H') : RMg w0 H m := ⟨h.lo.ent e, h.hi.ent e, h.v.ent e⟩
/-- A message's bytes of one's own. -/
@[reducible] def oM (m : Mg) : List Ck := [ob m.la m.lc m.lo, ob m.ha m.hc m.hi, ob m.va m.vc m.v]
theorem RMg.oM {m : Mg} : RMg w0 (oM m ++ H) m := ⟨RBy.hd, RBy.hd.tl, RBy.hd.tl.tl⟩
theorem rmg {m : Mg} (h : RMg w0 H m := by (repeat (first | assumption | apply RMg.tl)); first | done | fail) : RMg w0 H m := h
/-- Messages whose bytes can be read. -/
structure RMs (w0 : World) (H : List Ck) (a : Option Addr) (c : Nat) (ms : List Mg) : Prop where
  sl : RSl w0 H a c ms
  el : ∀ m ∈ ms, RMg w0 H m
theorem RMs.tl {a : Option Addr} {c : Nat} {ms : List Mg} {d : Ck} (h : RMs w0 H a c ms) : RMs w0 (d :: H) a c ms := ⟨h.sl.tl, fun m hm => (h.el m hm).tl⟩
theorem RMs.ent {a : Option Addr} {c : Nat} {ms : List Mg} {H' : List Ck} (h : RMs w0 H' a c ms) (e : Ent H H') : RMs w0 H a c ms := ⟨h.sl.ent e, fun m hm => (h.el m hm).ent e⟩
end Go.Sx
namespace Go.Sx
open Go Go.Proofs
set_option maxRecDepth 10000
variable {w0 : World} {H : List Ck}
end Go.Sx
namespace Go.Sx
open Go Go.Proofs
set_option maxRecDepth 10000
variable {w0 : World} {H : List Ck}
end Go.Sx
namespace Go.Sx
open Go Go.Proofs
set_option maxRecDepth 10000
section
variable {P : Program} {S : World → Prop} {l : List (Nat × Value)} {d : Option Tmp} {ty : TypeId} {pos : String} {af : Array Edge} {g : Option (Nat × Bool)}
end
variable {w0 : World} {H : List Ck}
theorem mcopied_s {a : Option Addr} {c : Nat} {xs : Bs} (ha : RBy w0 H a c xs) (hx : xs.length ≤ 140737488355328) : FnS Tryz.prog w0 H 53 #[.slice a xs.length c] (fun v H' => ∃ a', v = .slice a' xs.length xs.length ∧ H' = ob a' xs.length xs :: H) := by
  refine fns_enter Tryz.func53 rfl rfl rfl ?_
  refine sx ?_
  refine s_call rfl (bclone_s ha hx) ?_
  rintro _ _ ⟨a1, c1, rfl, rfl⟩
  refine ⟨chk_seq, ?_⟩
  refine s_call rfl clip_s ?_
  rintro _ _ ⟨rfl, rfl⟩
  refine ⟨chk_seq, ?_⟩
  refine sx ?_
  exact s_ret1 rfl rfl ⟨a1, rfl, rfl⟩
end Go.Sx
namespace Go.Sx
open Go Go.Proofs
set_option maxRecDepth 10000
variable {w0 : World} {H : List Ck}
/-- Of which keys. -/
def saidR (m : MD) : T3 := if m.kd = 1 ∨ m.kd = 2 then (m.lo, m.lo ++ [0], false) else if m.kd = 3 then (m.lo, m.hi, false) else t30
def mntV (m : Mg) : Value :=
  if m.kd = 1 then .iface 106 (.agg #[.slice m.la m.lo.length m.lc, .slice m.va m.v.length m.vc])
  else if m.kd = 2 then .iface 111 (.agg #[.slice m.la m.lo.length m.lc])
  else if m.kd = 3 then .iface 114 (.agg #[.slice m.la m.lo.length m.lc, .slice m.ha m.hi.length m.hc])
  else .nilIface
theorem mnext_s {a : Option Addr} {c : Nat} {xs : Bs} (ha : RBy w0 H a c xs) (hx : xs.length ≤ 140737488355327) : FnS Tryz.prog w0 H 157 #[.slice a xs.length c] (fun v H' => ∃ a' c', v = .slice a' (xs ++ [0]).length c' ∧ H' = ob a' c' (xs ++ [0]) :: H) := by
  refine fns_enter Tryz.func157 rfl rfl rfl ?_
  refine sx ?_
  refine s_rw (t := 6) (v' := .int .i64 ((xs.length + 1 : Nat) : Int)) rfl (ci (by omega)) ?_
  refine s_make rfl rfl (by omega) fun b => ?_
  refine sx ?_
  refine s_copy rfl rfl ?_ (ys := xs) (hk0 := by simp)
  have e : xs.take (List.replicate (xs.length + 1) (0 : UInt8)).length ++ (List.replicate (xs.length + 1) (0 : UInt8)).drop xs.length = xs ++ [0] := by
    rw [List.length_replicate, List.take_of_length_le (by omega), List.drop_replicate, show xs.length + 1 - xs.length = 1 by omega]
    rfl
  rw [e]
  refine sx ?_
  exact s_ret1 rfl rfl ⟨some b, xs.length + 1, by simp, rfl⟩
abbrev SysR (a : Option Addr) (c : Nat) (lo : Bs) (H : List Ck) : Value → List Ck → Prop := fun v H' => ∃ (a' : Option Addr) (c' : Nat), v = .agg (Rg.cells ⟨a, c, lo, a', c', lo ++ [0], false⟩).toArray ∧ H' = ob a' c' (lo ++ [0]) :: H
theorem psays_s {a a2 : Option Addr} {c n2 c2 : Nat} {xs : Bs} (ha : RBy w0 H a c xs) (hx : xs.length ≤ 140737488355327) : FnS Tryz.prog w0 H 156 #[.agg #[.slice a xs.length c, .slice a2 n2 c2]] (SysR a c xs H) := by
  refine fns_enter Tryz.func156 rfl rfl rfl ?_
  refine sx ?_
  refine s_boxA rfl fun b1 => ?_
  refine sx ?_
  refine s_alloc fun b2 => ?_
  refine sx ?_; refine s_drH (.hb b1 106 [.slice a xs.length c, .slice a2 n2 c2] :: H) (.one true 0 (.one true 1 (.one true 2 (.one true 3 (.one false 4 (.one true 5 (.one false 6 .nil))))))) mixed (by kernel_rfl) ?_; refine sx ?_
  refine s_call rfl (mnext_s (xs := xs) (by exact rby) hx) ?_
  rintro _ _ ⟨a4, c4, rfl, rfl⟩
  refine ⟨chk_held (by exact ent), ?_⟩
  refine sx ?_
  refine s_retc rfl rfl (by exact at_) rfl ⟨a4, c4, rfl, rfl⟩ (by exact ent)
theorem tsays_s {a : Option Addr} {c : Nat} {xs : Bs} (ha : RBy w0 H a c xs) (hx : xs.length ≤ 140737488355327) : FnS Tryz.prog w0 H 158 #[.agg #[.slice a xs.length c]] (SysR a c xs H) := by
  refine fns_enter Tryz.func158 rfl rfl rfl ?_
  refine sx ?_
  refine s_boxA rfl fun b1 => ?_
  refine sx ?_
  refine s_alloc fun b2 => ?_
  refine sx ?_; refine s_drH (.hb b1 111 [.slice a xs.length c] :: H) (.one true 0 (.one true 1 (.one true 2 (.one true 3 (.one false 4 (.one true 5 (.one false 6 .nil))))))) mixed (by kernel_rfl) ?_; refine sx ?_
  refine s_call rfl (mnext_s (xs := xs) (by exact rby) hx) ?_
  rintro _ _ ⟨a4, c4, rfl, rfl⟩
  refine ⟨chk_held (by exact ent), ?_⟩
  refine sx ?_
  refine s_retc rfl rfl (by exact at_) rfl ⟨a4, c4, rfl, rfl⟩ (by exact ent)
theorem csays_s {a a2 : Option Addr} {c c2 : Nat} {xs ys : Bs} : FnV Tryz.prog w0 H 159 #[.agg #[.slice a xs.length c, .slice a2 ys.length c2]] (.agg (Rg.cells ⟨a, c, xs, a2, c2, ys, false⟩).toArray) := by
  refine fns_enter Tryz.func159 rfl rfl rfl ?_
  refine sx ?_
  refine s_boxA rfl fun b1 => ?_
  refine sx ?_
  refine s_alloc fun b2 => ?_
  refine sx ?_
  exact s_retc rfl rfl (by exact at_) rfl ⟨rfl, rfl⟩ (by exact ent)
theorem mmeant_s {m : Mg} : FnV Tryz.prog w0 H 56 #[.agg m.cells.toArray] (mntV m) := by
  refine fns_enter Tryz.func56 rfl rfl rfl ?_
  refine sx ?_
  refine s_boxA rfl fun b1 => ?_
  refine sx ?_
  unfold mntV
  refine s_if rfl (fun t1 => ?_) (fun t1 => ?_)
  · rw [if_pos t1]
    refine sx ?_
    refine s_yS rfl rfl rfl (y_mkI rfl) ?_
    refine sx ?_
    exact s_ret1 rfl rfl ⟨rfl, rfl⟩
  rw [if_neg t1]
  refine sx ?_
  refine s_if rfl (fun t2 => ?_) (fun t2 => ?_)
  · rw [if_pos t2]
    refine sx ?_
    refine s_yS rfl rfl rfl (y_mkI rfl) ?_
    refine sx ?_
    exact s_ret1 rfl rfl ⟨rfl, rfl⟩
  rw [if_neg t2]
  refine sx ?_
  refine s_if rfl (fun t3 => ?_) (fun t3 => ?_)
  · rw [if_pos t3]
    refine sx ?_
    refine s_yS rfl rfl rfl (y_mkI rfl) ?_
    refine sx ?_
    exact s_ret1 rfl rfl ⟨rfl, rfl⟩
  rw [if_neg t3]
  refine sx ?_
  exact s_ret1 rfl rfl ⟨rfl, rfl⟩
abbrev SdR (m : Mg) (H : List Ck) (w0 : World) : Value → List Ck → Prop := fun v H' => ∃ (r : Rg) (a' : Option Addr) (c' : Nat) (xs : Bs), v = .agg r.cells.toArray ∧ r.d = saidR m.d ∧ H' = ob a' c' xs :: H ∧ RRg w0 (ob a' c' xs :: H) r
theorem msaid_s {m : Mg} (hm : RMg w0 H m) (hl : m.lo.length ≤ 140737488355327) : FnS Tryz.prog w0 H 51 #[.agg m.cells.toArray] (SdR m H w0) := by
  refine fns_enter Tryz.func51 rfl rfl rfl ?_
  have h1 := hm.lo
  have h2 := hm.hi
  refine sx ?_
  refine s_boxA rfl fun b1 => ?_
  refine sx ?_
  refine s_alloc fun b2 => ?_
  refine sx ?_
  refine s_callV rfl (mmeant_s (m := m)) ?_
  unfold mntV
  by_cases t1 : m.kd = 1
  · have e : saidR m.d = (m.lo, m.lo ++ [0], false) := if_pos (.inl t1)
    rw [if_pos t1]
    refine sx ?_
    refine s_yS rfl rfl rfl (y_neI rfl) ?_
    refine sx ?_
    refine s_inv rfl (psays_s (xs := m.lo) (by exact rby) hl) ?_
    rintro _ _ ⟨a', c', rfl, rfl⟩
    refine ⟨chk_seq, ?_⟩
    refine sx ?_
    exact s_retc rfl rfl (by exact at_) rfl ⟨⟨m.la, m.lc, m.lo, a', c', m.lo ++ [0], false⟩, a', c', m.lo ++ [0], rfl, e.symm, rfl, ⟨h1.tl, RBy.hd⟩⟩ (by exact ent)
  rw [if_neg t1]
  by_cases t2 : m.kd = 2
  · have e : saidR m.d = (m.lo, m.lo ++ [0], false) := if_pos (.inr t2)
    rw [if_pos t2]
    refine sx ?_
    refine s_yS rfl rfl rfl (y_neI rfl) ?_
    refine sx ?_
    refine s_inv rfl (tsays_s (xs := m.lo) (by exact rby) hl) ?_
    rintro _ _ ⟨a', c', rfl, rfl⟩
    refine ⟨chk_seq, ?_⟩
    refine sx ?_
    exact s_retc rfl rfl (by exact at_) rfl ⟨⟨m.la, m.lc, m.lo, a', c', m.lo ++ [0], false⟩, a', c', m.lo ++ [0], rfl, e.symm, rfl, ⟨h1.tl, RBy.hd⟩⟩ (by exact ent)
  rw [if_neg t2]
  have e0 : saidR m.d = if m.kd = 3 then (m.lo, m.hi, false) else t30 := if_neg (fun h => h.elim t1 t2)
  by_cases t3 : m.kd = 3
  · have e : saidR m.d = (m.lo, m.hi, false) := by rw [e0, if_pos t3]
    rw [if_pos t3]
    refine sx ?_
    refine s_yS rfl rfl rfl (y_neI rfl) ?_
    refine sx ?_
    refine s_inv rfl (csays_s (xs := m.lo) (ys := m.hi)) ?_
    rintro _ _ ⟨rfl, rfl⟩
    refine ⟨chk_seq, ?_⟩
    refine sx ?_
    exact s_retc rfl rfl (by exact at_) rfl ⟨⟨m.la, m.lc, m.lo, m.ha, m.hc, m.hi, false⟩, none, 0, [], rfl, e.symm, rfl, ⟨h1.tl, h2.tl⟩⟩ (Ent.addNil (by exact ent))
  rw [if_neg t3]
  rw [if_neg t3] at e0
  refine sx ?_
  refine s_yS rfl rfl rfl (y_neN rfl) ?_
  refine sx ?_
  exact s_retc rfl rfl (by exact at_) rfl ⟨rg0, none, 0, [], rfl, e0.symm, rfl, ⟨RBy.nil, RBy.nil⟩⟩ (Ent.addNil (by exact ent))
end Go.Sx
namespace Go.Sx
open Go Go.Proofs
abbrev Nef (d : T3) : Prop := foR d = d ∧ ¬ emR d = true
theorem sepR_iff : ∀ {l : List T3}, SepR l ↔ (∀ a ∈ l, Nef a) ∧ l.Pairwise (fun a b => a.2.2 = false ∧ cmp a.2.1 b.1 < 0)
  | [] => by simp [SepR]
  | a :: l => by
    constructor
    · intro h
      have ih := sepR_iff.1 h.tail
      refine ⟨fun b hb => ?_, List.pairwise_cons.2 ⟨h.above, ih.2⟩⟩
      rcases List.mem_cons.1 hb with rfl | hb
      · exact h.head
      · exact ih.1 b hb
    · rintro ⟨h1, h2⟩
      have hc := List.pairwise_cons.1 h2
      have ih := (sepR_iff (l := l)).2 ⟨fun b hb => h1 b (by simp [hb]), hc.2⟩
      cases l with
      | nil => exact h1 a (by simp)
      | cons b r => exact ⟨h1 a (by simp), hc.1 b (by simp), ih⟩
theorem sepR_snoc {l : List T3} {a : T3} : SepR (l ++ [a]) ↔ SepR l ∧ Nef a ∧ ∀ b ∈ l, b.2.2 = false ∧ cmp b.2.1 a.1 < 0 := by
  rw [sepR_iff, sepR_iff, List.pairwise_append]
  constructor
  · rintro ⟨h1, h2, _, h3⟩
    exact ⟨⟨fun b hb => h1 b (by simp [hb]), h2⟩, h1 a (by simp), fun b hb => h3 b hb a (by simp)⟩
  · rintro ⟨⟨h1, h2⟩, h3, h4⟩
    refine ⟨fun b hb => ?_, h2, by simp, fun b hb c hc => ?_⟩
    · rcases List.mem_append.1 hb with hb | hb
      · exact h1 b hb
      · rw [List.mem_singleton.1 hb]; exact h3
    · rw [List.mem_singleton.1 hc]; exact h4 b hb
/-- One range more, by the program. -/
def cvP (out : List T3) (r : T3) : List T3 :=
  match out.getLast? with
  | none => out ++ [r]
  | some l => if l.2.2 = false ∧ cmp l.2.1 r.1 < 0 then out ++ [r] else if beR l r = true then out.dropLast ++ [(l.1, r.2.1, r.2.2)] else out
theorem inU_app {l m : List T3} {key : Bs} : inU (l ++ m) key ↔ inU l key ∨ inU m key := by
  unfold inU
  constructor
  · rintro ⟨r, hr, hk⟩
    exact (List.mem_append.1 hr).imp (fun h => ⟨r, h, hk⟩) (fun h => ⟨r, h, hk⟩)
  · rintro (⟨r, hr, hk⟩ | ⟨r, hr, hk⟩)
    · exact ⟨r, List.mem_append_left _ hr, hk⟩
    · exact ⟨r, List.mem_append_right _ hr, hk⟩
theorem inU_one {a : T3} {key : Bs} : inU [a] key ↔ hasB a key = true := by simp [inU]
theorem inU_nil {key : Bs} : ¬ inU [] key := by simp [inU]
theorem cvP_step {out : List T3} {r : T3} (hs : SepR out) (hr : Nef r) (ho : ∀ o ∈ out, cmp o.1 r.1 ≤ 0) :
    SepR (cvP out r) ∧ (∀ key, inU (cvP out r) key ↔ inU out key ∨ hasB r key = true) ∧ ∀ o ∈ cvP out r, (∃ o' ∈ out, o.1 = o'.1) ∨ o.1 = r.1 := by
  rcases List.eq_nil_or_concat out with rfl | ⟨ini, l, e⟩
  · show SepR [r] ∧ (∀ key, inU [r] key ↔ _) ∧ _
    refine ⟨hr, fun key => ?_, fun o h => ?_⟩
    · rw [inU_one]
      exact ⟨.inr, fun h => h.resolve_left inU_nil⟩
    · have h : o ∈ [r] := h
      rw [List.mem_singleton.1 h]; exact .inr rfl
  have e : out = ini ++ [l] := by rw [e, List.concat_eq_append]
  subst e
  have hg : (ini ++ [l]).getLast? = some l := by simp
  obtain ⟨h1, h2, h3⟩ := sepR_snoc.1 hs
  have hlr := ho l (by simp)
  unfold cvP
  rw [hg]
  simp only
  split
  · rename_i hc
    refine ⟨sepR_snoc.2 ⟨hs, hr, fun b hb => ?_⟩, fun key => by rw [inU_app, inU_one], fun o h => ?_⟩
    · rcases List.mem_append.1 hb with hb | hb
      · have g := h3 b hb
        exact ⟨g.1, lt_tr g.2 hlr⟩
      · rw [List.mem_singleton.1 hb]; exact hc
    · rcases List.mem_append.1 h with h | h
      · exact .inl ⟨o, h, rfl⟩
      · rw [List.mem_singleton.1 h]; exact .inr rfl
  · rename_i hc
    have hr2 := hr.2
    rw [emR_iff] at hr2
    split
    · rename_i hb
      obtain ⟨b1, b2⟩ := beR_iff.1 hb
      have hch : cmp r.1 l.2.1 ≤ 0 := nlt fun g => hc ⟨b1, g⟩
      rw [List.dropLast_concat]
      have hne : ¬ emR (l.1, r.2.1, r.2.2) = true := by
        rw [emR_iff]
        rintro ⟨g1, g2⟩
        have g1 : r.2.2 = false := g1
        have g2 : cmp r.2.1 l.1 ≤ 0 := g2
        have := nle fun g => hr2 ⟨g1, g⟩
        have := lt_tr this (le_tr g2 hlr)
        rw [cmp_self] at this
        omega
      have hfo : foR (l.1, r.2.1, r.2.2) = (l.1, r.2.1, r.2.2) := by
        rw [foR, if_neg hne]
        split
        · rename_i g
          have g : r.2.2 = true := g
          have := hr.1
          rw [foR, if_neg hr.2, if_pos g] at this
          rw [← this]
        · rfl
      refine ⟨sepR_snoc.2 ⟨h1, ⟨hfo, hne⟩, h3⟩, fun key => ?_, fun o h => ?_⟩
      · rw [inU_app, inU_app, inU_one, inU_one, or_assoc]
        refine or_congr_right ?_
        rw [hasB_iff, hasB_iff, hasB_iff]
        simp only
        constructor
        · rintro ⟨g1, g2⟩
          by_cases g3 : cmp key l.2.1 < 0
          · exact .inl ⟨g1, .inr g3⟩
          · exact .inr ⟨le_tr hch (nlt g3), g2⟩
        · rintro (⟨g1, g2⟩ | ⟨g1, g2⟩)
          · have g3 := g2.resolve_left (by rw [b1]; decide)
            exact ⟨g1, b2.imp id fun g => lt_tr g3 (by omega)⟩
          · exact ⟨le_tr hlr g1, g2⟩
      · rcases List.mem_append.1 h with h | h
        · exact .inl ⟨o, by simp [h], rfl⟩
        · rw [List.mem_singleton.1 h]; exact .inl ⟨l, by simp, rfl⟩
    · rename_i hb
      refine ⟨hs, fun key => ⟨.inl, fun h => ?_⟩, fun o h => .inl ⟨o, h, rfl⟩⟩
      rcases h with h | h
      · exact h
      · rw [inU_app, inU_one]
        right
        rw [hasB_iff] at h ⊢
        refine ⟨le_tr hlr h.1, ?_⟩
        cases hl : l.2.2
        · right
          have g1 : ¬ (r.2.2 = true ∨ cmp l.2.1 r.2.1 < 0) := fun g => hb (beR_iff.2 ⟨hl, g⟩)
          have g2 := h.2.resolve_left fun g => g1 (.inl g)
          exact lt_tr g2 (nlt fun g => g1 (.inr g))
        · exact .inl rfl
abbrev LoS (rs : List T3) : Prop := rs.Pairwise (fun a b => cmp a.1 b.1 ≤ 0)
theorem cvP_fold : ∀ (rs : List T3) (out : List T3), SepR out → (∀ r ∈ rs, Nef r) → LoS rs → (∀ o ∈ out, ∀ r ∈ rs, cmp o.1 r.1 ≤ 0) →
    SepR (rs.foldl cvP out) ∧ ∀ key, inU (rs.foldl cvP out) key ↔ inU out key ∨ inU rs key
  | [], out, hs, _, _, _ => ⟨hs, fun key => ⟨.inl, fun h => h.resolve_right inU_nil⟩⟩
  | r :: rs, out, hs, hn, hl, ho => by
    have hc := List.pairwise_cons.1 hl
    obtain ⟨g1, g2, g3⟩ := cvP_step hs (hn r (by simp)) (fun o h => ho o h r (by simp))
    obtain ⟨f1, f2⟩ := cvP_fold rs (cvP out r) g1 (fun q hq => hn q (by simp [hq])) hc.2 (fun o h q hq => by
      rcases g3 o h with ⟨o', h1, h2⟩ | h2
      · rw [h2]; exact ho o' h1 q (by simp [hq])
      · rw [h2]; exact hc.1 q hq)
    refine ⟨f1, fun key => ?_⟩
    rw [List.foldl_cons, f2 key, g2 key, or_assoc]
    refine or_congr_right ?_
    rw [show r :: rs = [r] ++ rs from rfl, inU_app, inU_one]
/-- The cover of some ranges: it has one form. -/
def IsCv (l c : List T3) : Prop := SepR c ∧ ∀ key, inU c key ↔ inU l key
theorem IsCv.uniq {l m c d : List T3} (h1 : IsCv l c) (h2 : IsCv m d) (h : ∀ key, inU l key ↔ inU m key) : c = d :=
  sep_uniq h1.1 h2.1 fun key => by rw [h1.2, h2.2, h]
/-- Those that have keys, in their forms, in some order, one put to the other. -/
theorem cvP_is {l rs : List T3} (hp : rs.Perm ((l.filter fun d => !emR d).map foR)) (hs : LoS rs) : IsCv l (rs.foldl cvP []) := by
  have hn : ∀ r ∈ rs, Nef r := fun r hr => by
    obtain ⟨d, h1, rfl⟩ := List.mem_map.1 (hp.mem_iff.1 hr)
    have h2 := (List.mem_filter.1 h1).2
    refine ⟨fo_fo d, ?_⟩
    rw [emR_fo]
    simpa using h2
  obtain ⟨h1, h2⟩ := cvP_fold rs [] trivial hn hs (fun o h => by simp at h)
  refine ⟨h1, fun key => ?_⟩
  rw [h2 key]
  constructor
  · rintro (h | ⟨r, hr, hk⟩)
    · exact absurd h inU_nil
    · obtain ⟨d, h3, rfl⟩ := List.mem_map.1 (hp.mem_iff.1 hr)
      exact ⟨d, (List.mem_filter.1 h3).1, has_fo.1 hk⟩
  · rintro ⟨d, hd, hk⟩
    have he : ¬ emR d = true := fun g => has_em g hk
    exact .inr ⟨foR d, hp.mem_iff.2 (List.mem_map.2 ⟨d, List.mem_filter.2 ⟨hd, by simpa using he⟩, rfl⟩), has_fo.2 hk⟩
/-- A cover is its own cover. -/
theorem IsCv.self {l c : List T3} (h : IsCv l c) : IsCv c c := ⟨h.1, fun _ => Iff.rfl⟩
end Go.Sx

