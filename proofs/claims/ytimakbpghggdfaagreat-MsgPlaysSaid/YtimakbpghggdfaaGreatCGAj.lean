/- Part of a proof: several parts of a walk, one behind the other. -/
import Derived.Test.YtimakbpghggdfaaGreatCB4j
import Derived.Test.YtimakbpghggdfaaGreatCV3
import Derived.Test.YtimakbpghggdfaaGreatCO2j
import Derived.Test.YtimakbpghggdfaaGreatCQB
import Derived.Test.YtimakbpghggdfaaGreatCKA
namespace Go.Sx
open Go Go.Proofs
set_option maxRecDepth 10000
variable {w0 : World} {H : List Ck}
/-- Of which keys. -/
def saidR (m : MD) : T3 := if m.kd = 1 ∨ m.kd = 2 then (m.lo, m.lo ++ [0], false) else if m.kd = 3 then (m.lo, m.hi, false) else t30
def mntV (m : Mg) : Value :=
  if m.kd = 1 then .iface 91 (.agg #[.slice m.la m.lo.length m.lc, .slice m.va m.v.length m.vc])
  else if m.kd = 2 then .iface 96 (.agg #[.slice m.la m.lo.length m.lc])
  else if m.kd = 3 then .iface 99 (.agg #[.slice m.la m.lo.length m.lc, .slice m.ha m.hi.length m.hc])
  else .nilIface
theorem mnext_s {a : Option Addr} {c : Nat} {xs : Bs} (ha : RBy w0 H a c xs) (hx : xs.length ≤ 140737488355327) : FnS Tryz.prog w0 H 11 #[.slice a xs.length c] (fun v H' => ∃ a' c', v = .slice a' (xs ++ [0]).length c' ∧ H' = ob a' c' (xs ++ [0]) :: H) := by
  refine fns_enter Tryz.func11 rfl rfl rfl ?_
  refine sx ?_
  refine s_rw (t := 6) (v' := .int .i64 ((xs.length + 1 : Nat) : Int)) rfl (ci (by omega)) ?_
  refine s_make rfl rfl (by omega) fun b => ?_
  refine sx ?_
  refine s_copy rfl rfl ?_ (ys := xs) (hk0 := by simp)
  have e : xs.take (List.replicate (xs.length + 1) (0 : UInt8)).length ++ (List.replicate (xs.length + 1) (0 : UInt8)).drop xs.length = xs ++ [0] := by
    rw [List.length_replicate, List.take_of_length_le (by omega), List.drop_replicate, show xs.length + 1 - xs.length = 1 by omega]
    rfl
  rw [e]
  refine sx ?_
  exact s_ret1 rfl rfl ⟨some b, xs.length + 1, by simp, rfl⟩
abbrev SysR (a : Option Addr) (c : Nat) (lo : Bs) (H : List Ck) : Value → List Ck → Prop := fun v H' => ∃ (a' : Option Addr) (c' : Nat), v = .agg (Rg.cells ⟨a, c, lo, a', c', lo ++ [0], false⟩).toArray ∧ H' = ob a' c' (lo ++ [0]) :: H
theorem psays_s {a a2 : Option Addr} {c n2 c2 : Nat} {xs : Bs} (ha : RBy w0 H a c xs) (hx : xs.length ≤ 140737488355327) : FnS Tryz.prog w0 H 184 #[.agg #[.slice a xs.length c, .slice a2 n2 c2]] (SysR a c xs H) := by
  refine fns_enter Tryz.func184 rfl rfl rfl ?_
  refine sx ?_
  refine s_boxA rfl fun b1 => ?_
  refine sx ?_
  refine s_alloc fun b2 => ?_
  refine sx ?_; refine s_drH (.hb b1 91 [.slice a xs.length c, .slice a2 n2 c2] :: H) (.one true 0 (.one true 1 (.one true 2 (.one true 3 (.one false 4 (.one true 5 (.one false 6 .nil))))))) mixed (by kernel_rfl) ?_; refine sx ?_
  refine s_call rfl (mnext_s (xs := xs) (by exact rby) hx) ?_
  rintro _ _ ⟨a4, c4, rfl, rfl⟩
  refine ⟨chk_held (by exact ent), ?_⟩
  refine sx ?_
  refine s_retc rfl rfl (by exact at_) rfl ⟨a4, c4, rfl, rfl⟩ (by exact ent)
theorem tsays_s {a : Option Addr} {c : Nat} {xs : Bs} (ha : RBy w0 H a c xs) (hx : xs.length ≤ 140737488355327) : FnS Tryz.prog w0 H 185 #[.agg #[.slice a xs.length c]] (SysR a c xs H) := by
  refine fns_enter Tryz.func185 rfl rfl rfl ?_
  refine sx ?_
  refine s_boxA rfl fun b1 => ?_
  refine sx ?_
  refine s_alloc fun b2 => ?_
  refine sx ?_; refine s_drH (.hb b1 96 [.slice a xs.length c] :: H) (.one true 0 (.one true 1 (.one true 2 (.one true 3 (.one false 4 (.one true 5 (.one false 6 .nil))))))) mixed (by kernel_rfl) ?_; refine sx ?_
  refine s_call rfl (mnext_s (xs := xs) (by exact rby) hx) ?_
  rintro _ _ ⟨a4, c4, rfl, rfl⟩
  refine ⟨chk_held (by exact ent), ?_⟩
  refine sx ?_
  refine s_retc rfl rfl (by exact at_) rfl ⟨a4, c4, rfl, rfl⟩ (by exact ent)
theorem csays_s {a a2 : Option Addr} {c c2 : Nat} {xs ys : Bs} : FnV Tryz.prog w0 H 186 #[.agg #[.slice a xs.length c, .slice a2 ys.length c2]] (.agg (Rg.cells ⟨a, c, xs, a2, c2, ys, false⟩).toArray) := by
  refine fns_enter Tryz.func186 rfl rfl rfl ?_
  refine sx ?_
  refine s_boxA rfl fun b1 => ?_
  refine sx ?_
  refine s_alloc fun b2 => ?_
  refine sx ?_
  exact s_retc rfl rfl (by exact at_) rfl ⟨rfl, rfl⟩ (by exact ent)
theorem mmeant_s {m : Mg} : FnV Tryz.prog w0 H 38 #[.agg m.cells.toArray] (mntV m) := by
  refine fns_enter Tryz.func38 rfl rfl rfl ?_
  refine sx ?_
  refine s_boxA rfl fun b1 => ?_
  refine sx ?_
  unfold mntV
  refine s_if rfl (fun t1 => ?_) (fun t1 => ?_)
  · rw [if_pos t1]
    refine sx ?_
    refine s_yS rfl rfl rfl (y_mkI rfl) ?_
    refine sx ?_
    exact s_ret1 rfl rfl ⟨rfl, rfl⟩
  rw [if_neg t1]
  refine sx ?_
  refine s_if rfl (fun t2 => ?_) (fun t2 => ?_)
  · rw [if_pos t2]
    refine sx ?_
    refine s_yS rfl rfl rfl (y_mkI rfl) ?_
    refine sx ?_
    exact s_ret1 rfl rfl ⟨rfl, rfl⟩
  rw [if_neg t2]
  refine sx ?_
  refine s_if rfl (fun t3 => ?_) (fun t3 => ?_)
  · rw [if_pos t3]
    refine sx ?_
    refine s_yS rfl rfl rfl (y_mkI rfl) ?_
    refine sx ?_
    exact s_ret1 rfl rfl ⟨rfl, rfl⟩
  rw [if_neg t3]
  refine sx ?_
  exact s_ret1 rfl rfl ⟨rfl, rfl⟩
abbrev SdR (m : Mg) (H : List Ck) (w0 : World) : Value → List Ck → Prop := fun v H' => ∃ (r : Rg) (a' : Option Addr) (c' : Nat) (xs : Bs), v = .agg r.cells.toArray ∧ r.d = saidR m.d ∧ H' = ob a' c' xs :: H ∧ RRg w0 (ob a' c' xs :: H) r
theorem msaid_s {m : Mg} (hm : RMg w0 H m) (hl : m.lo.length ≤ 140737488355327) : FnS Tryz.prog w0 H 45 #[.agg m.cells.toArray] (SdR m H w0) := by
  refine fns_enter Tryz.func45 rfl rfl rfl ?_
  have h1 := hm.lo
  have h2 := hm.hi
  refine sx ?_
  refine s_boxA rfl fun b1 => ?_
  refine sx ?_
  refine s_alloc fun b2 => ?_
  refine sx ?_
  refine s_callV rfl (mmeant_s (m := m)) ?_
  unfold mntV
  by_cases t1 : m.kd = 1
  · have e : saidR m.d = (m.lo, m.lo ++ [0], false) := if_pos (.inl t1)
    rw [if_pos t1]
    refine sx ?_
    refine s_yS rfl rfl rfl (y_neI rfl) ?_
    refine sx ?_
    refine s_inv rfl (psays_s (xs := m.lo) (by exact rby) hl) ?_
    rintro _ _ ⟨a', c', rfl, rfl⟩
    refine ⟨chk_seq, ?_⟩
    refine sx ?_
    exact s_retc rfl rfl (by exact at_) rfl ⟨⟨m.la, m.lc, m.lo, a', c', m.lo ++ [0], false⟩, a', c', m.lo ++ [0], rfl, e.symm, rfl, ⟨h1.tl, RBy.hd⟩⟩ (by exact ent)
  rw [if_neg t1]
  by_cases t2 : m.kd = 2
  · have e : saidR m.d = (m.lo, m.lo ++ [0], false) := if_pos (.inr t2)
    rw [if_pos t2]
    refine sx ?_
    refine s_yS rfl rfl rfl (y_neI rfl) ?_
    refine sx ?_
    refine s_inv rfl (tsays_s (xs := m.lo) (by exact rby) hl) ?_
    rintro _ _ ⟨a', c', rfl, rfl⟩
    refine ⟨chk_seq, ?_⟩
    refine sx ?_
    exact s_retc rfl rfl (by exact at_) rfl ⟨⟨m.la, m.lc, m.lo, a', c', m.lo ++ [0], false⟩, a', c', m.lo ++ [0], rfl, e.symm, rfl, ⟨h1.tl, RBy.hd⟩⟩ (by exact ent)
  rw [if_neg t2]
  have e0 : saidR m.d = if m.kd = 3 then (m.lo, m.hi, false) else t30 := if_neg (fun h => h.elim t1 t2)
  by_cases t3 : m.kd = 3
  · have e : saidR m.d = (m.lo, m.hi, false) := by rw [e0, if_pos t3]
    rw [if_pos t3]
    refine sx ?_
    refine s_yS rfl rfl rfl (y_neI rfl) ?_
    refine sx ?_
    refine s_inv rfl (csays_s (xs := m.lo) (ys := m.hi)) ?_
    rintro _ _ ⟨rfl, rfl⟩
    refine ⟨chk_seq, ?_⟩
    refine sx ?_
    exact s_retc rfl rfl (by exact at_) rfl ⟨⟨m.la, m.lc, m.lo, m.ha, m.hc, m.hi, false⟩, none, 0, [], rfl, e.symm, rfl, ⟨h1.tl, h2.tl⟩⟩ (Ent.addNil (by exact ent))
  rw [if_neg t3]
  rw [if_neg t3] at e0
  refine sx ?_
  refine s_yS rfl rfl rfl (y_neN rfl) ?_
  refine sx ?_
  exact s_retc rfl rfl (by exact at_) rfl ⟨rg0, none, 0, [], rfl, e0.symm, rfl, ⟨RBy.nil, RBy.nil⟩⟩ (Ent.addNil (by exact ent))
end Go.Sx
namespace Go.Sx
open Go Go.Proofs
abbrev Nef (d : T3) : Prop := foR d = d ∧ ¬ emR d = true
theorem sepR_iff : ∀ {l : List T3}, SepR l ↔ (∀ a ∈ l, Nef a) ∧ l.Pairwise (fun a b => a.2.2 = false ∧ cmp a.2.1 b.1 < 0)
  | [] => by simp [SepR]
  | a :: l => by
    constructor
    · intro h
      have ih := sepR_iff.1 h.tail
      refine ⟨fun b hb => ?_, List.pairwise_cons.2 ⟨h.above, ih.2⟩⟩
      rcases List.mem_cons.1 hb with rfl | hb
      · exact h.head
      · exact ih.1 b hb
    · rintro ⟨h1, h2⟩
      have hc := List.pairwise_cons.1 h2
      have ih := (sepR_iff (l := l)).2 ⟨fun b hb => h1 b (by simp [hb]), hc.2⟩
      cases l with
      | nil => exact h1 a (by simp)
      | cons b r => exact ⟨h1 a (by simp), hc.1 b (by simp), ih⟩
theorem sepR_snoc {l : List T3} {a : T3} : SepR (l ++ [a]) ↔ SepR l ∧ Nef a ∧ ∀ b ∈ l, b.2.2 = false ∧ cmp b.2.1 a.1 < 0 := by
  rw [sepR_iff, sepR_iff, List.pairwise_append]
  constructor
  · rintro ⟨h1, h2, _, h3⟩
    exact ⟨⟨fun b hb => h1 b (by simp [hb]), h2⟩, h1 a (by simp), fun b hb => h3 b hb a (by simp)⟩
  · rintro ⟨⟨h1, h2⟩, h3, h4⟩
    refine ⟨fun b hb => ?_, h2, by simp, fun b hb c hc => ?_⟩
    · rcases List.mem_append.1 hb with hb | hb
      · exact h1 b hb
      · rw [List.mem_singleton.1 hb]; exact h3
    · rw [List.mem_singleton.1 hc]; exact h4 b hb
/-- One range more, by the program. -/
def cvP (out : List T3) (r : T3) : List T3 :=
  match out.getLast? with
  | none => out ++ [r]
  | some l => if l.2.2 = false ∧ cmp l.2.1 r.1 < 0 then out ++ [r] else if beR l r = true then out.dropLast ++ [(l.1, r.2.1, r.2.2)] else out
theorem inU_app {l m : List T3} {key : Bs} : inU (l ++ m) key ↔ inU l key ∨ inU m key := by
  unfold inU
  constructor
  · rintro ⟨r, hr, hk⟩
    exact (List.mem_append.1 hr).imp (fun h => ⟨r, h, hk⟩) (fun h => ⟨r, h, hk⟩)
  · rintro (⟨r, hr, hk⟩ | ⟨r, hr, hk⟩)
    · exact ⟨r, List.mem_append_left _ hr, hk⟩
    · exact ⟨r, List.mem_append_right _ hr, hk⟩
theorem inU_one {a : T3} {key : Bs} : inU [a] key ↔ hasB a key = true := by simp [inU]
theorem inU_nil {key : Bs} : ¬ inU [] key := by simp [inU]
theorem cvP_step {out : List T3} {r : T3} (hs : SepR out) (hr : Nef r) (ho : ∀ o ∈ out, cmp o.1 r.1 ≤ 0) :
    SepR (cvP out r) ∧ (∀ key, inU (cvP out r) key ↔ inU out key ∨ hasB r key = true) ∧ ∀ o ∈ cvP out r, (∃ o' ∈ out, o.1 = o'.1) ∨ o.1 = r.1 := by
  rcases List.eq_nil_or_concat out with rfl | ⟨ini, l, e⟩
  · show SepR [r] ∧ (∀ key, inU [r] key ↔ _) ∧ _
    refine ⟨hr, fun key => ?_, fun o h => ?_⟩
    · rw [inU_one]
      exact ⟨.inr, fun h => h.resolve_left inU_nil⟩
    · have h : o ∈ [r] := h
      rw [List.mem_singleton.1 h]; exact .inr rfl
  have e : out = ini ++ [l] := by rw [e, List.concat_eq_append]
  subst e
  have hg : (ini ++ [l]).getLast? = some l := by simp
  obtain ⟨h1, h2, h3⟩ := sepR_snoc.1 hs
  have hlr := ho l (by simp)
  unfold cvP
  rw [hg]
  simp only
  split
  · rename_i hc
    refine ⟨sepR_snoc.2 ⟨hs, hr, fun b hb => ?_⟩, fun key => by rw [inU_app, inU_one], fun o h => ?_⟩
    · rcases List.mem_append.1 hb with hb | hb
      · have g := h3 b hb
        exact ⟨g.1, lt_tr g.2 hlr⟩
      · rw [List.mem_singleton.1 hb]; exact hc
    · rcases List.mem_append.1 h with h | h
      · exact .inl ⟨o, h, rfl⟩
      · rw [List.mem_singleton.1 h]; exact .inr rfl
  · rename_i hc
    have hr2 := hr.2
    rw [emR_iff] at hr2
    split
    · rename_i hb
      obtain ⟨b1, b2⟩ := beR_iff.1 hb
      have hch : cmp r.1 l.2.1 ≤ 0 := nlt fun g => hc ⟨b1, g⟩
      rw [List.dropLast_concat]
      have hne : ¬ emR (l.1, r.2.1, r.2.2) = true := by
        rw [emR_iff]
        rintro ⟨g1, g2⟩
        have g1 : r.2.2 = false := g1
        have g2 : cmp r.2.1 l.1 ≤ 0 := g2
        have := nle fun g => hr2 ⟨g1, g⟩
        have := lt_tr this (le_tr g2 hlr)
        rw [cmp_self] at this
        omega
      have hfo : foR (l.1, r.2.1, r.2.2) = (l.1, r.2.1, r.2.2) := by
        rw [foR, if_neg hne]
        split
        · rename_i g
          have g : r.2.2 = true := g
          have := hr.1
          rw [foR, if_neg hr.2, if_pos g] at this
          rw [← this]
        · rfl
      refine ⟨sepR_snoc.2 ⟨h1, ⟨hfo, hne⟩, h3⟩, fun key => ?_, fun o h => ?_⟩
      · rw [inU_app, inU_app, inU_one, inU_one, or_assoc]
        refine or_congr_right ?_
        rw [hasB_iff, hasB_iff, hasB_iff]
        simp only
        constructor
        · rintro ⟨g1, g2⟩
          by_cases g3 : cmp key l.2.1 < 0
          · exact .inl ⟨g1, .inr g3⟩
          · exact .inr ⟨le_tr hch (nlt g3), g2⟩
        · rintro (⟨g1, g2⟩ | ⟨g1, g2⟩)
          · have g3 := g2.resolve_left (by rw [b1]; decide)
            exact ⟨g1, b2.imp id fun g => lt_tr g3 (by omega)⟩
          · exact ⟨le_tr hlr g1, g2⟩
      · rcases List.mem_append.1 h with h | h
        · exact .inl ⟨o, by simp [h], rfl⟩
        · rw [List.mem_singleton.1 h]; exact .inl ⟨l, by simp, rfl⟩
    · rename_i hb
      refine ⟨hs, fun key => ⟨.inl, fun h => ?_⟩, fun o h => .inl ⟨o, h, rfl⟩⟩
      rcases h with h | h
      · exact h
      · rw [inU_app, inU_one]
        right
        rw [hasB_iff] at h ⊢
        refine ⟨le_tr hlr h.1, ?_⟩
        cases hl : l.2.2
        · right
          have g1 : ¬ (r.2.2 = true ∨ cmp l.2.1 r.2.1 < 0) := fun g => hb (beR_iff.2 ⟨hl, g⟩)
          have g2 := h.2.resolve_left fun g => g1 (.inl g)
          exact lt_tr g2 (nlt fun g => g1 (.inr g))
        · exact .inl rfl
abbrev LoS (rs : List T3) : Prop := rs.Pairwise (fun a b => cmp a.1 b.1 ≤ 0)
theorem cvP_fold : ∀ (rs : List T3) (out : List T3), SepR out → (∀ r ∈ rs, Nef r) → LoS rs → (∀ o ∈ out, ∀ r ∈ rs, cmp o.1 r.1 ≤ 0) →
    SepR (rs.foldl cvP out) ∧ ∀ key, inU (rs.foldl cvP out) key ↔ inU out key ∨ inU rs key
  | [], out, hs, _, _, _ => ⟨hs, fun key => ⟨.inl, fun h => h.resolve_right inU_nil⟩⟩
  | r :: rs, out, hs, hn, hl, ho => by
    have hc := List.pairwise_cons.1 hl
    obtain ⟨g1, g2, g3⟩ := cvP_step hs (hn r (by simp)) (fun o h => ho o h r (by simp))
    obtain ⟨f1, f2⟩ := cvP_fold rs (cvP out r) g1 (fun q hq => hn q (by simp [hq])) hc.2 (fun o h q hq => by
      rcases g3 o h with ⟨o', h1, h2⟩ | h2
      · rw [h2]; exact ho o' h1 q (by simp [hq])
      · rw [h2]; exact hc.1 q hq)
    refine ⟨f1, fun key => ?_⟩
    rw [List.foldl_cons, f2 key, g2 key, or_assoc]
    refine or_congr_right ?_
    rw [show r :: rs = [r] ++ rs from rfl, inU_app, inU_one]
/-- The cover of some ranges: it has one form. -/
def IsCv (l c : List T3) : Prop := SepR c ∧ ∀ key, inU c key ↔ inU l key
theorem IsCv.uniq {l m c d : List T3} (h1 : IsCv l c) (h2 : IsCv m d) (h : ∀ key, inU l key ↔ inU m key) : c = d :=
  sep_uniq h1.1 h2.1 fun key => by rw [h1.2, h2.2, h]
/-- Those that have keys, in their forms, in some order, one put to the other. -/
theorem cvP_is {l rs : List T3} (hp : rs.Perm ((l.filter fun d => !emR d).map foR)) (hs : LoS rs) : IsCv l (rs.foldl cvP []) := by
  have hn : ∀ r ∈ rs, Nef r := fun r hr => by
    obtain ⟨d, h1, rfl⟩ := List.mem_map.1 (hp.mem_iff.1 hr)
    have h2 := (List.mem_filter.1 h1).2
    refine ⟨fo_fo d, ?_⟩
    rw [emR_fo]
    simpa using h2
  obtain ⟨h1, h2⟩ := cvP_fold rs [] trivial hn hs (fun o h => by simp at h)
  refine ⟨h1, fun key => ?_⟩
  rw [h2 key]
  constructor
  · rintro (h | ⟨r, hr, hk⟩)
    · exact absurd h inU_nil
    · obtain ⟨d, h3, rfl⟩ := List.mem_map.1 (hp.mem_iff.1 hr)
      exact ⟨d, (List.mem_filter.1 h3).1, has_fo.1 hk⟩
  · rintro ⟨d, hd, hk⟩
    have he : ¬ emR d = true := fun g => has_em g hk
    exact .inr ⟨foR d, hp.mem_iff.2 (List.mem_map.2 ⟨d, List.mem_filter.2 ⟨hd, by simpa using he⟩, rfl⟩), has_fo.2 hk⟩
/-- A cover is its own cover. -/
theorem IsCv.self {l c : List T3} (h : IsCv l c) : IsCv c c := ⟨h.1, fun _ => Iff.rfl⟩
end Go.Sx
namespace Go.Sx
open Go
/-- Nothing is between a key and the one with a nought behind it. -/
theorem cmp_next : ∀ (a : Bs), cmp a (a ++ [0]) = -1
  | [] => rfl
  | x :: a => by simp [cmp, cmp_next a]
theorem near_next : ∀ (a c : Bs), cmp a c < 0 → 0 ≤ cmp c (a ++ [0])
  | [], [], h => by simp [cmp] at h
  | [], z :: c, _ => by
    show 0 ≤ cmp (z :: c) [0]
    by_cases e : z = 0
    · subst e
      cases c <;> simp [cmp]
    · have h0 : (0 : UInt8) < z := by
        have : z.toNat ≠ 0 := fun g => e (UInt8.toNat_inj.1 (by simpa using g))
        simp only [UInt8.lt_iff_toNat_lt]
        show (0 : Nat) < _
        omega
      simp [cmp, e, h0]
  | x :: a, [], h => by simp [cmp] at h
  | x :: a, z :: c, h => by
    show 0 ≤ cmp (z :: c) (x :: (a ++ [0]))
    by_cases e : x = z
    · subst e
      simp only [cmp, if_true] at h ⊢
      exact near_next a c h
    · have e' : ¬ z = x := fun g => e g.symm
      simp only [cmp, if_neg e, if_neg e'] at h ⊢
      split at h
      · omega
      · rename_i g
        rw [if_pos (by
          have : x.toNat ≠ z.toNat := fun g => e (UInt8.toNat_inj.1 g)
          simp only [UInt8.lt_iff_toNat_lt] at *
          omega)]
        decide
end Go.Sx
namespace Go.Sx
open Go
/-- A piece: a key with its value, or a range that is gone. -/
structure PD where
  put : Bool
  key : Bs
  v : Bs
  gn : T3
deriving DecidableEq
def atP (p : PD) : Bs := if p.put = true then p.key else p.gn.1
def endP (p : PD) : Bs := if p.put = true then p.key ++ [0] else p.gn.2.1
def okP (p : PD) : Prop := if p.put = true then p.gn = t30 else p.key = [] ∧ p.v = [] ∧ Nef p.gn ∧ p.gn.2.2 = false
def spP (p : PD) (key : Bs) : Option (Option Bs) := if p.put = true then (if p.key = key then some (some p.v) else none) else if hasB p.gn key = true then some none else none
def PIn (ps : List PD) (key : Bs) (o : Option Bs) : Prop := ∃ p ∈ ps, spP p key = some o
/-- What messages make of a key: the last one that says something of it. -/
def getM : List MD → Bs → Option (Option Bs)
  | [], _ => none
  | m :: r, key => match getM r key with
    | some o => some o
    | none => if hasB (saidR m) key = true then some (if m.kd = 1 then some m.v else none) else none
def stepP (a b : PD) : Prop := cmp (endP a) (atP b) ≤ 0 ∧ (a.put = false → b.put = false → cmp (endP a) (atP b) < 0)
def WfP (ps : List PD) : Prop := (∀ p ∈ ps, okP p) ∧ ps.Pairwise stepP
def IsMean (l : List MD) (ps : List PD) : Prop := WfP ps ∧ ∀ key o, PIn ps key o ↔ getM l key = some o
theorem has_one {k key : Bs} : hasB (k, k ++ [0], false) key = true ↔ key = k := by
  rw [hasB_iff]
  constructor
  · rintro ⟨h1, h2⟩
    have h2 := h2.resolve_left (by simp)
    have h1 : cmp k key ≤ 0 := h1
    have h2 : cmp key (k ++ [0]) < 0 := h2
    rcases Int.lt_or_eq_of_le h1 with h | h
    · have := near_next k key h
      omega
    · exact ((cmp_eq _ _).1 h).symm
  · rintro rfl
    exact ⟨by show cmp key key ≤ 0; rw [cmp_self]; omega, .inr (by show cmp key (key ++ [0]) < 0; rw [cmp_next]; decide)⟩
theorem at_end {p : PD} (h : okP p) : cmp (atP p) (endP p) < 0 := by
  unfold okP at h
  unfold atP endP
  split
  · rw [cmp_next]; decide
  · rename_i hp
    rw [if_neg hp] at h
    obtain ⟨_, _, hn, hf⟩ := h
    have := hn.2
    rw [emR_iff] at this
    exact nle fun g => this ⟨hf, g⟩
/-- A piece says something of where it begins. -/
theorem sp_at {p : PD} (h : okP p) : ∃ o, spP p (atP p) = some o := by
  have he := at_end h
  unfold okP at h
  unfold spP atP endP at *
  split
  · exact ⟨_, if_pos rfl⟩
  · rename_i hp
    simp only [hp] at h he
    refine ⟨none, if_pos ?_⟩
    exact hasB_iff.2 ⟨by rw [cmp_self]; omega, .inr (by simpa using he)⟩
/-- What a piece says lies between its ends. -/
theorem sp_in {p : PD} {key : Bs} {o : Option Bs} (h : okP p) (hs : spP p key = some o) : cmp (atP p) key ≤ 0 ∧ cmp key (endP p) < 0 := by
  unfold okP at h
  unfold spP at hs
  unfold atP endP
  split
  · rename_i hp
    rw [if_pos hp] at hs
    split at hs
    · rename_i hk
      subst hk
      rw [cmp_self, cmp_next]
      omega
    · cases hs
  · rename_i hp
    rw [if_neg hp] at hs h
    split at hs
    · rename_i hk
      have := hasB_iff.1 hk
      rw [h.2.2.2] at this
      exact ⟨this.1, this.2.resolve_left (by decide)⟩
    · cases hs
theorem rise_at {a b : PD} (ha : okP a) (h : stepP a b) : cmp (atP a) (atP b) < 0 := lt_tr (at_end ha) h.1
theorem eq_of_rise {α : Type} {lt : α → α → Prop} (has : ∀ a b, lt a b → ¬ lt b a) : ∀ {l m : List α}, l.Pairwise lt → m.Pairwise lt → (∀ x, x ∈ l ↔ x ∈ m) → l = m
  | [], [], _, _, _ => rfl
  | [], b :: m, _, _, h => by have := (h b).2 (by simp); simp at this
  | a :: l, [], _, _, h => by have := (h a).1 (by simp); simp at this
  | a :: l, b :: m, hl, hm, h => by
    obtain ⟨ha, hl'⟩ := List.pairwise_cons.1 hl
    obtain ⟨hb, hm'⟩ := List.pairwise_cons.1 hm
    have e : a = b := by
      rcases List.mem_cons.1 ((h a).1 (by simp)) with e | h1
      · exact e
      rcases List.mem_cons.1 ((h b).2 (by simp)) with e | h2
      · exact e.symm
      · exact absurd (hb a h1) (has _ _ (ha b h2))
    subst e
    rw [eq_of_rise has hl' hm' fun x => ?_]
    constructor
    · intro hx
      rcases List.mem_cons.1 ((h x).1 (by simp [hx])) with e | h1
      · subst e; exact absurd (ha x hx) (fun g => has _ _ g g)
      · exact h1
    · intro hx
      rcases List.mem_cons.1 ((h x).2 (by simp [hx])) with e | h1
      · subst e; exact absurd (hb x hx) (fun g => has _ _ g g)
      · exact h1
/-- The ranges that are gone. -/
def goneP (ps : List PD) : List T3 := (ps.filter fun p => !p.put).map PD.gn
theorem gone_sep {ps : List PD} (h : WfP ps) : SepR (goneP ps) := by
  refine sepR_iff.2 ⟨fun a ha => ?_, ?_⟩
  · obtain ⟨p, hp, e⟩ := List.mem_map.1 ha
    obtain ⟨h1, h2⟩ := List.mem_filter.1 hp
    have := h.1 p h1
    unfold okP at this
    rw [if_neg (by simpa using h2)] at this
    rw [← e]; exact this.2.2.1
  · refine List.pairwise_map.2 ?_
    refine List.Pairwise.imp_of_mem ?_ (h.2.filter _)
    intro a b ha hb hs
    obtain ⟨a1, a2⟩ := List.mem_filter.1 ha
    obtain ⟨b1, b2⟩ := List.mem_filter.1 hb
    have ha2 : a.put = false := by simpa using a2
    have hb2 : b.put = false := by simpa using b2
    have oa := h.1 a a1
    unfold okP at oa
    rw [if_neg (by simp [ha2])] at oa
    have := hs.2 ha2 hb2
    unfold endP atP at this
    rw [if_neg (by simp [ha2]), if_neg (by simp [hb2])] at this
    exact ⟨oa.2.2.2, this⟩
theorem gone_in {ps : List PD} {key : Bs} : inU (goneP ps) key ↔ PIn ps key none := by
  constructor
  · rintro ⟨r, hr, hk⟩
    obtain ⟨p, hp, e⟩ := List.mem_map.1 hr
    obtain ⟨h1, h2⟩ := List.mem_filter.1 hp
    refine ⟨p, h1, ?_⟩
    unfold spP
    rw [if_neg (by simpa using h2), if_pos (by rw [e]; exact hk)]
  · rintro ⟨p, hp, hs⟩
    unfold spP at hs
    split at hs
    · split at hs <;> cases hs
    · rename_i h2
      split at hs
      · rename_i hk
        exact ⟨p.gn, List.mem_map.2 ⟨p, List.mem_filter.2 ⟨hp, by simpa using h2⟩, rfl⟩, hk⟩
      · cases hs
theorem wf_mem {ps qs : List PD} (h1 : WfP ps) (h2 : WfP qs) (h : ∀ key o, PIn ps key o ↔ PIn qs key o) {p : PD} (hp : p ∈ ps) : p ∈ qs := by
  have op := h1.1 p hp
  cases hput : p.put
  · have e := sep_uniq (gone_sep h1) (gone_sep h2) fun key => by rw [gone_in, gone_in]; exact h key none
    have m : p.gn ∈ goneP ps := List.mem_map.2 ⟨p, List.mem_filter.2 ⟨hp, by simp [hput]⟩, rfl⟩
    rw [e] at m
    obtain ⟨q, hq, eq⟩ := List.mem_map.1 m
    obtain ⟨q1, q2⟩ := List.mem_filter.1 hq
    have oq := h2.1 q q1
    unfold okP at op oq
    have q3 : q.put = false := by simpa using q2
    rw [if_neg (by simp [hput])] at op
    rw [if_neg (by simp [q3])] at oq
    have : q = p := by
      obtain ⟨a, b, c, d⟩ := q
      obtain ⟨a', b', c', d'⟩ := p
      simp only at hput q3 op oq eq
      rw [hput, q3, op.1, op.2.1, oq.1, oq.2.1, eq]
    rw [← this]; exact q1
  · have hs : spP p p.key = some (some p.v) := by unfold spP; rw [if_pos hput, if_pos rfl]
    obtain ⟨q, hq, hqs⟩ := (h _ _).1 ⟨p, hp, hs⟩
    have oq := h2.1 q hq
    unfold okP at op oq
    unfold spP at hqs
    split at hqs
    · rename_i q3
      split at hqs
      · rename_i hk
        rw [if_pos hput] at op
        rw [if_pos q3] at oq
        have : q = p := by
          obtain ⟨a, b, c, d⟩ := q
          obtain ⟨a', b', c', d'⟩ := p
          simp only at hput q3 op oq hk hqs
          simp only [Option.some.injEq] at hqs
          rw [hput, q3, op, oq, hk, hqs]
        rw [← this]; exact hq
      · cases hqs
    · split at hqs <;> cases hqs
theorem WfP.uniq {ps qs : List PD} (h1 : WfP ps) (h2 : WfP qs) (h : ∀ key o, PIn ps key o ↔ PIn qs key o) : ps = qs := by
  have rise : ∀ {l : List PD}, WfP l → l.Pairwise fun a b => cmp (atP a) (atP b) < 0 := fun hl => List.Pairwise.imp_of_mem (fun ha _ hs => rise_at (hl.1 _ ha) hs) hl.2
  refine eq_of_rise (fun a b g1 g2 => ?_) (rise h1) (rise h2) fun x => ⟨wf_mem h1 h2 h, wf_mem h2 h1 fun k o => (h k o).symm⟩
  have := cmp_anti (atP a) (atP b)
  omega
/-- There is one meaning. -/
theorem IsMean.uniq {l m : List MD} {ps qs : List PD} (h1 : IsMean l ps) (h2 : IsMean m qs) (h : ∀ key, getM l key = getM m key) : ps = qs :=
  WfP.uniq h1.1 h2.1 fun key o => by rw [h1.2, h2.2, h]
theorem getM_app (a b : List MD) (key : Bs) : getM (a ++ b) key = match getM b key with
    | some o => some o
    | none => getM a key := by
  induction a with
  | nil => simp only [List.nil_append, getM]; cases getM b key <;> rfl
  | cons m r ih =>
    simp only [List.cons_append, getM, ih]
    cases getM b key <;> rfl
end Go.Sx

