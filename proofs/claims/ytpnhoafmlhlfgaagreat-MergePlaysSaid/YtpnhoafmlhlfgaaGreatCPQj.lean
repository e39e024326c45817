/- Part of a proof: several parts of a walk, one behind the other. -/
import Derived.Test.YtpnhoafmlhlfgaaGreatCPM
import Derived.Test.YtpnhoafmlhlfgaaGreatCMVj
import Derived.Test.YtpnhoafmlhlfgaaGreatCOBj
namespace Go.Sx
open Go
set_option maxRecDepth 10000
theorem getM_last {l : List MD} {key : Bs} {j : Nat} {m : MD} (hm : l[j]? = some m) (hh : hasB (saidR m) key = true) (hn : ∀ j' m', j < j' → l[j']? = some m' → ¬ hasB (saidR m') key = true) : getM l key = some (if m.kd = 1 then some m.v else none) := by
  have hs : l = l.take j ++ m :: l.drop (j + 1) := by rw [← dropG hm, List.take_append_drop]
  rw [hs, getM_app]
  have h0 : getM (l.drop (j + 1)) key = none := getM_none.2 (by
    rintro ⟨x, hx, hk⟩
    obtain ⟨t, ht⟩ := List.getElem?_of_mem hx
    rw [List.getElem?_drop] at ht
    exact hn _ _ (by omega) ht hk)
  rw [getM_cons, if_pos ⟨h0, hh⟩]
theorem ByI.get {l : List MD} {key : Bs} {b : Int} (h : ByI l 0 key b) : (b = -1 ∧ getM l key = none) ∨ ∃ j : Nat, ∃ m, b = (j : Int) ∧ l[j]? = some m ∧ hasB (saidR m) key = true ∧ getM l key = some (if m.kd = 1 then some m.v else none) := by
  rcases h with ⟨h1, h2⟩ | ⟨j, m, h1, _, h3, h4, h5⟩
  · refine .inl ⟨h1, getM_none.2 ?_⟩
    rintro ⟨x, hx, hk⟩
    obtain ⟨t, ht⟩ := List.getElem?_of_mem hx
    exact h2 t x (Nat.zero_le _) ht hk
  · exact .inr ⟨j, m, h1, h3, h4, getM_last h3 h4 h5⟩
/-- Within a stretch nothing changes. -/
theorem cut_same {ms : List MD} {ks : List SB} (hup : RiB ks) (hk : ∀ key, key ∈ ks.map SB.xs ↔ key ∈ edL ms) {i : Nat} {s t : SB} (hs : ks[i]? = some s) (ht : ks[i + 1]? = some t) {key : Bs} (h1 : cmp s.xs key ≤ 0) (h2 : cmp key t.xs < 0) {m : MD} (hm : m ∈ ms) :
    hasB (saidR m) key = true ↔ hasB (saidR m) s.xs = true := by
  by_cases he : emR (saidR m) = true
  · exact ⟨fun g => absurd g (has_em he), fun g => absurd g (has_em he)⟩
  have hf : (saidR m).2.2 = false := said_fin m
  have hin : ∀ x ∈ edM m, x ∈ ks.map SB.xs := fun x hx => (hk x).2 (List.mem_flatMap.2 ⟨m, hm, hx⟩)
  have hed : edM m = [(saidR m).1, (saidR m).2.1] := by unfold edM; rw [if_neg he]
  rw [hed] at hin
  obtain ⟨a, sa, ha1, ha2, ha3⟩ := plA_ex hup (hin (saidR m).1 (by simp))
  obtain ⟨b, sb, hb1, hb2, hb3⟩ := plA_ex hup (hin (saidR m).2.1 (by simp))
  rw [hasB_iff, hasB_iff, hf]
  simp only [Bool.false_eq_true, false_or]
  constructor
  · rintro ⟨g1, g2⟩
    refine ⟨?_, ?_⟩
    · rcases Nat.lt_or_ge i a with g | g
      · rcases Nat.eq_or_lt_of_le g with e | e
        · rw [← e, ht] at ha1
          cases ha1
          rw [ha2] at h2
          have := cmp_anti (saidR m).1 key
          omega
        · have := ha3.lo (i + 1) t e ht
          have h3 := lt_tr h2 (show cmp t.xs (saidR m).1 ≤ 0 by omega)
          have := cmp_anti (saidR m).1 key
          omega
      · have := ha3.hi i s g hs
        have := cmp_anti (saidR m).1 s.xs
        omega
    · exact tr_lt h1 g2
  · rintro ⟨g1, g2⟩
    refine ⟨le_tr g1 h1, ?_⟩
    rcases Nat.lt_or_ge i b with g | g
    · rcases Nat.eq_or_lt_of_le g with e | e
      · rw [← e, ht] at hb1
        cases hb1
        rw [← hb2]
        exact h2
      · have := hb3.lo (i + 1) t e ht
        exact lt_tr h2 (by omega)
    · have := hb3.hi i s g hs
      omega
/-- So far these pieces are what messages mean. -/
structure MnK (ms : List MD) (ps : List PD) (bnd : Bs) : Prop where
  wf : WfP ps
  end_ : ∀ p ∈ ps, cmp (endP p) bnd ≤ 0
  say : ∀ key, cmp key bnd < 0 → ∀ o, PIn ps key o ↔ getM ms key = some o
theorem MnK.nil {ms : List MD} {bnd : Bs} (h : ∀ key, cmp key bnd < 0 → getM ms key = none) : MnK ms [] bnd :=
  ⟨⟨fun p hp => (by cases hp), List.Pairwise.nil⟩, fun p hp => (by cases hp), fun key hk o => by
    rw [h key hk]
    exact ⟨fun ⟨p, hp, _⟩ => (by cases hp), fun g => (by cases g)⟩⟩
theorem MnK.above {ms : List MD} {ps : List PD} {bnd : Bs} (h : MnK ms ps bnd) {key : Bs} (hk : cmp bnd key ≤ 0) {o : Option Bs} : ¬ PIn ps key o := by
  rintro ⟨p, hp, hs⟩
  have h1 := (sp_in (h.wf.1 p hp) hs).2
  have h2 := h.end_ p hp
  have := le_tr h2 hk
  have := cmp_anti key (endP p)
  omega
theorem MnK.mono {ms : List MD} {ps : List PD} {b0 b1 : Bs} (h : MnK ms ps b0) (hb : cmp b0 b1 < 0) (hn : ∀ key, cmp b0 key ≤ 0 → cmp key b1 < 0 → getM ms key = none) : MnK ms ps b1 := by
  refine ⟨h.wf, fun p hp => le_tr (h.end_ p hp) (by omega), fun key hk o => ?_⟩
  by_cases g : cmp key b0 < 0
  · exact h.say key g o
  · have g2 : cmp b0 key ≤ 0 := by have := cmp_anti key b0; omega
    rw [hn key g2 hk]
    exact ⟨fun hp => absurd hp (h.above g2), fun e => by cases e⟩
theorem MnK.snoc {ms : List MD} {ps : List PD} {b0 b1 : Bs} {p : PD} (h : MnK ms ps b0) (hok : okP p) (hat : atP p = b0) (hend : cmp (endP p) b1 ≤ 0) (hb : cmp b0 b1 < 0) (hg : p.put = false → ∀ q ∈ ps, q.put = false → cmp (endP q) b0 < 0)
    (hn : ∀ key, cmp b0 key ≤ 0 → cmp key b1 < 0 → ∀ o, spP p key = some o ↔ getM ms key = some o) : MnK ms (ps ++ [p]) b1 := by
  refine ⟨⟨fun q hq => ?_, ?_⟩, fun q hq => ?_, fun key hk o => ?_⟩
  · rcases List.mem_append.1 hq with hq | hq
    · exact h.wf.1 q hq
    · rw [List.mem_singleton.1 hq]; exact hok
  · refine List.pairwise_append.2 ⟨h.wf.2, List.pairwise_singleton _ _, fun q hq r hr => ?_⟩
    rw [List.mem_singleton.1 hr]
    refine ⟨by rw [hat]; exact h.end_ q hq, fun g1 g2 => ?_⟩
    rw [hat]
    exact hg g2 q hq g1
  · rcases List.mem_append.1 hq with hq | hq
    · exact le_tr (h.end_ q hq) (by omega)
    · rw [List.mem_singleton.1 hq]; exact hend
  · have hsplit : PIn (ps ++ [p]) key o ↔ PIn ps key o ∨ spP p key = some o := by
      constructor
      · rintro ⟨q, hq, hs⟩
        rcases List.mem_append.1 hq with hq | hq
        · exact .inl ⟨q, hq, hs⟩
        · rw [List.mem_singleton.1 hq] at hs; exact .inr hs
      · rintro (⟨q, hq, hs⟩ | hs)
        · exact ⟨q, List.mem_append_left _ hq, hs⟩
        · exact ⟨p, by simp, hs⟩
    rw [hsplit]
    by_cases g : cmp key b0 < 0
    · rw [h.say key g o]
      refine ⟨fun x => x.elim id (fun hs => ?_), .inl⟩
      have := (sp_in hok hs).1
      rw [hat] at this
      have := cmp_anti key b0
      omega
    · have g2 : cmp b0 key ≤ 0 := by have := cmp_anti key b0; omega
      rw [← hn key g2 hk o]
      exact ⟨fun x => x.elim (fun hp => absurd hp (h.above g2)) id, .inr⟩
theorem nef_of {a b : Bs} (h : cmp a b < 0) : Nef (a, b, false) := by
  have he : ¬ emR (a, b, false) = true := by
    rw [emR_iff]
    rintro ⟨_, h2⟩
    have := cmp_anti a b
    simp only at h2
    omega
  refine ⟨?_, he⟩
  unfold foR
  rw [if_neg he]
  simp
theorem MnK.put {ms : List MD} {ps : List PD} {b0 b1 v : Bs} (h : MnK ms ps b0) (hb : cmp b0 b1 < 0) (hv : getM ms b0 = some (some v)) (ho : ∀ key, cmp b0 key ≤ 0 → cmp key b1 < 0 → key = b0) : MnK ms (ps ++ [⟨true, b0, v, t30⟩]) b1 := by
  refine h.snoc rfl rfl ?_ hb (fun g => by cases g) fun key h1 h2 o => ?_
  · show cmp (b0 ++ [0]) b1 ≤ 0
    by_cases g : cmp b1 (b0 ++ [0]) < 0
    · have := near_next b0 b1 hb
      have := cmp_anti b1 (b0 ++ [0])
      omega
    · have := cmp_anti b1 (b0 ++ [0])
      omega
  · obtain rfl := ho key h1 h2
    rw [hv]
    simp [spP]
theorem MnK.gone {ms : List MD} {ps : List PD} {b0 b1 : Bs} (h : MnK ms ps b0) (hb : cmp b0 b1 < 0) (hg : ∀ q ∈ ps, q.put = false → cmp (endP q) b0 < 0) (hn : ∀ key, cmp b0 key ≤ 0 → cmp key b1 < 0 → getM ms key = some none) : MnK ms (ps ++ [⟨false, [], [], (b0, b1, false)⟩]) b1 := by
  refine h.snoc ⟨rfl, rfl, nef_of hb, rfl⟩ rfl (by show cmp b1 b1 ≤ 0; rw [cmp_self]; exact Int.le_refl _) hb (fun _ => hg) fun key h1 h2 o => ?_
  rw [hn key h1 h2]
  have : hasB (b0, b1, false) key = true := hasB_iff.2 ⟨h1, .inr h2⟩
  simp [spP, this, eq_comm]
theorem MnK.far {ms : List MD} {qs : List PD} {p : PD} {b0 : Bs} (h : MnK ms (qs ++ [p]) b0) (hl : p.put = false → cmp (endP p) b0 < 0) : ∀ q ∈ qs ++ [p], q.put = false → cmp (endP q) b0 < 0 := by
  intro q hq hg
  have hpw := List.pairwise_append.1 h.wf.2
  have hp : p ∈ qs ++ [p] := by simp
  rcases List.mem_append.1 hq with hq | hq
  · have h1 := (hpw.2.2 q hq p (by simp)).1
    have h2 := at_end (h.wf.1 p hp)
    have h3 := h.end_ p hp
    have h4 := lt_tr h2 h3
    have := cmp_anti (endP q) b0
    by_cases g : cmp (endP q) b0 < 0
    · exact g
    · have := lt_tr h4 (show cmp b0 (endP q) ≤ 0 by omega)
      have := cmp_anti (endP q) (atP p)
      omega
  · rw [List.mem_singleton.1 hq] at hg ⊢
    exact hl hg
theorem MnK.ext {ms : List MD} {qs : List PD} {x b0 b1 : Bs} (h : MnK ms (qs ++ [⟨false, [], [], (x, b0, false)⟩]) b0) (hb : cmp b0 b1 < 0) (hn : ∀ key, cmp b0 key ≤ 0 → cmp key b1 < 0 → getM ms key = some none) : MnK ms (qs ++ [⟨false, [], [], (x, b1, false)⟩]) b1 := by
  have hlast : okP ⟨false, [], [], (x, b0, false)⟩ := h.wf.1 _ (by simp)
  have hx : cmp x b0 < 0 := at_end hlast
  have hpw := List.pairwise_append.1 h.wf.2
  have hq : MnK ms qs x := by
    refine ⟨⟨fun p hp => h.wf.1 p (List.mem_append_left _ hp), hpw.1⟩, fun p hp => (hpw.2.2 p hp ⟨false, [], [], (x, b0, false)⟩ (by simp)).1, fun key hk o => ?_⟩
    rw [← h.say key (lt_tr hk (by omega)) o]
    refine ⟨fun ⟨p, hp, hs⟩ => ⟨p, List.mem_append_left _ hp, hs⟩, fun ⟨p, hp, hs⟩ => ?_⟩
    rcases List.mem_append.1 hp with hp | hp
    · exact ⟨p, hp, hs⟩
    · rw [List.mem_singleton.1 hp] at hs
      have := (sp_in hlast hs).1
      have h0 : atP ⟨false, [], [], (x, b0, false)⟩ = x := rfl
      rw [h0] at this
      have := cmp_anti key x
      omega
  refine hq.gone (lt_tr hx (by omega)) (fun p hp g => (hpw.2.2 p hp ⟨false, [], [], (x, b0, false)⟩ (by simp)).2 g rfl) fun key h1 h2 => ?_
  by_cases g : cmp key b0 < 0
  · rw [← h.say key g none]
    exact ⟨_, List.mem_append_right _ (List.mem_singleton.2 rfl), by
      have : hasB (x, b0, false) key = true := hasB_iff.2 ⟨h1, .inr g⟩
      simp [spP, this]⟩
  · exact hn key (by have := cmp_anti key b0; omega) h2
theorem MnK.fin {ms : List MD} {ps : List PD} {bnd : Bs} (h : MnK ms ps bnd) (hn : ∀ key, cmp bnd key ≤ 0 → getM ms key = none) : IsMean ms ps := by
  refine ⟨h.wf, fun key o => ?_⟩
  by_cases g : cmp key bnd < 0
  · exact h.say key g o
  · have g2 : cmp bnd key ≤ 0 := by have := cmp_anti key bnd; omega
    rw [hn key g2]
    exact ⟨fun hp => absurd hp (h.above g2), fun e => by cases e⟩
end Go.Sx
namespace Go.Sx
open Go
set_option maxRecDepth 10000
theorem getL_iff' {l : List Pp} (h : RiL l) {k v : Bs} : getL l k = some v ↔ (k, v) ∈ l := ⟨getL_mem, fun g => getL_at h g⟩
/-- Below what was gone over. -/
def blw (F : Option Bs) (k : Bs) : Prop := match F with
  | none => False
  | some b => cmp k b < 0
structure ApK (es : List Pp) (ms : List MD) (F : Option Bs) (out rest : List Pp) : Prop where
  up : RiL out
  ru : RiL rest
  lo : ∀ e ∈ out, blw F e.1
  hi : ∀ e ∈ rest, ¬ blw F e.1
  say : ∀ key v, blw F key → ((key, v) ∈ out ↔ appO (getL es key) (getM ms key) = some v)
  rst : ∀ key v, ¬ blw F key → ((key, v) ∈ rest ↔ (key, v) ∈ es)
theorem ApK.nil {es : List Pp} {ms : List MD} (h : RiL es) : ApK es ms none [] es :=
  ⟨List.Pairwise.nil, h, fun e he => (by cases he), fun e _ => id, fun key v hk => hk.elim, fun _ _ _ => Iff.rfl⟩
def ltB (b : Bs) (e : Pp) : Bool := decide (cmp e.1 b < 0)
/-- A piece is gone over: what is ahead of it stays, what it has goes. -/
theorem ApK.step {es : List Pp} {ms : List MD} {F : Option Bs} {out rest a b : List Pp} {p : PD} (h : ApK es ms F out rest) (hA : RiL es) (hok : okP p) (hF : ∀ f, F = some f → cmp f (atP p) ≤ 0)
    (hs : rest = a ++ b) (ha : ∀ e ∈ a, cmp e.1 (endP p) < 0) (hb : ∀ e ∈ b, ¬ cmp e.1 (endP p) < 0)
    (hn : ∀ key, ¬ blw F key → cmp key (atP p) < 0 → getM ms key = none) (hp : ∀ key, cmp (atP p) key ≤ 0 → cmp key (endP p) < 0 → getM ms key = if p.put = true then some (some p.v) else some none)
    (ho : p.put = true → ∀ key, cmp (atP p) key ≤ 0 → cmp key (endP p) < 0 → key = p.key) :
    ApK es ms (some (endP p)) (out ++ a.filter (ltB (atP p)) ++ (if p.put = true then [(p.key, p.v)] else [])) b := by
  have hae := at_end hok
  have hra : RiL a ∧ RiL b ∧ ∀ x ∈ a, ∀ y ∈ b, cmp x.1 y.1 < 0 := by
    have := h.ru
    rw [hs] at this
    exact List.pairwise_append.1 this
  have hfl : ∀ e ∈ a.filter (ltB (atP p)), e ∈ a ∧ cmp e.1 (atP p) < 0 := fun e he => by
    obtain ⟨h1, h2⟩ := List.mem_filter.1 he
    exact ⟨h1, by simpa [ltB] using h2⟩
  have hout : ∀ e ∈ out, cmp e.1 (atP p) < 0 := fun e he => by
    have h1 := h.lo e he
    cases hc : F with
    | none => rw [hc] at h1; exact h1.elim
    | some f => rw [hc] at h1; exact lt_tr h1 (hF f hc)
  have hpk : p.put = true → atP p = p.key := fun g => by unfold atP; rw [if_pos g]
  have hbF : ∀ key, blw F key → cmp key (atP p) < 0 := fun key hk => by
    cases hc : F with
    | none => rw [hc] at hk; exact hk.elim
    | some f => rw [hc] at hk; exact lt_tr hk (hF f hc)
  have key_at : p.put = true → cmp p.key (endP p) < 0 := fun g => by rw [← hpk g]; exact hae
  refine ⟨?_, hra.2.1, fun e he => ?_, fun e he => hb e he, fun key v hk => ?_, fun key v hk => ?_⟩
  · refine List.pairwise_append.2 ⟨List.pairwise_append.2 ⟨h.up, hra.1.sublist List.filter_sublist, fun x hx y hy => ?_⟩, ?_, fun x hx y hy => ?_⟩
    · have h1 := h.lo x hx
      have h2 := h.hi y (by rw [hs]; exact List.mem_append_left _ (hfl y hy).1)
      cases hc : F with
      | none => rw [hc] at h1; exact h1.elim
      | some f =>
        rw [hc] at h1 h2
        have h2 : ¬ cmp y.1 f < 0 := h2
        have := cmp_anti y.1 f
        exact lt_tr h1 (by omega)
    · split <;> simp
    · split at hy
      · rename_i g
        rw [List.mem_singleton.1 hy]
        show cmp x.1 p.key < 0
        rw [← hpk g]
        rcases List.mem_append.1 hx with hx | hx
        · exact hout x hx
        · exact (hfl x hx).2
      · cases hy
  · rcases List.mem_append.1 he with he | he
    · rcases List.mem_append.1 he with he | he
      · exact lt_tr (hout e he) (by omega)
      · exact lt_tr (hfl e he).2 (by omega)
    · split at he
      · rename_i g
        rw [List.mem_singleton.1 he]
        exact key_at g
      · cases he
  · have hk : cmp key (endP p) < 0 := hk
    rw [List.mem_append, List.mem_append]
    by_cases hkF : blw F key
    · rw [h.say key v hkF]
      refine ⟨fun x => ?_, fun x => .inl (.inl x)⟩
      have hlt := hbF key hkF
      rcases x with (x | x) | x
      · exact x
      · exact absurd hkF (h.hi _ (by rw [hs]; exact List.mem_append_left _ (hfl _ x).1))
      · split at x
        · rename_i g
          have e := List.mem_singleton.1 x
          have e1 : key = p.key := congrArg Prod.fst e
          rw [e1, ← hpk g, cmp_self] at hlt
          omega
        · cases x
    · have hno : (key, v) ∉ out := fun x => hkF (h.lo _ x)
      by_cases hka : cmp key (atP p) < 0
      · rw [hn key hkF hka]
        show _ ↔ getL es key = some v
        rw [getL_iff' hA]
        rw [← h.rst key v hkF, hs]
        constructor
        · rintro ((x | x) | x)
          · exact absurd x hno
          · exact List.mem_append_left _ (hfl _ x).1
          · split at x
            · rename_i g
              have e1 : key = p.key := congrArg Prod.fst (List.mem_singleton.1 x)
              rw [e1, ← hpk g, cmp_self] at hka
              omega
            · cases x
        · intro x
          rcases List.mem_append.1 x with x | x
          · exact .inl (.inr (List.mem_filter.2 ⟨x, by simpa [ltB] using hka⟩))
          · exact absurd hk (hb _ x)
      · have hka2 : cmp (atP p) key ≤ 0 := by have := cmp_anti key (atP p); omega
        rw [hp key hka2 hk]
        by_cases g : p.put = true
        · rw [if_pos g, if_pos g]
          have hkk := ho g key hka2 hk
          show _ ↔ some p.v = some v
          constructor
          · rintro ((x | x) | x)
            · exact absurd x hno
            · exact absurd (hfl _ x).2 hka
            · have e : v = p.v := congrArg Prod.snd (List.mem_singleton.1 x)
              rw [e]
          · intro x
            obtain rfl := Option.some.inj x
            exact .inr (by rw [hkk]; simp)
        · rw [if_neg g, if_neg g]
          show _ ↔ none = some v
          constructor
          · rintro ((x | x) | x)
            · exact absurd x hno
            · exact absurd (hfl _ x).2 hka
            · cases x
          · intro x; cases x
  · have hk : ¬ cmp key (endP p) < 0 := hk
    have hkF : ¬ blw F key := fun g => hk (lt_tr (hbF key g) (by omega))
    rw [← h.rst key v hkF, hs, List.mem_append]
    exact ⟨.inr, fun x => x.elim (fun x => absurd (ha _ x) hk) id⟩
theorem ApK.fin {es : List Pp} {ms : List MD} {F : Option Bs} {out rest : List Pp} (h : ApK es ms F out rest) (hA : RiL es) (hn : ∀ key, ¬ blw F key → getM ms key = none) : RiL (out ++ rest) ∧ ∀ key v, (key, v) ∈ out ++ rest ↔ appO (getL es key) (getM ms key) = some v := by
  refine ⟨List.pairwise_append.2 ⟨h.up, h.ru, fun x hx y hy => ?_⟩, fun key v => ?_⟩
  · have h1 := h.lo x hx
    have h2 := h.hi y hy
    cases hc : F with
    | none => rw [hc] at h1; exact h1.elim
    | some f =>
      rw [hc] at h1 h2
      have h2 : ¬ cmp y.1 f < 0 := h2
      have := cmp_anti y.1 f
      exact lt_tr h1 (by omega)
  · rw [List.mem_append]
    by_cases hk : blw F key
    · rw [← h.say key v hk]
      exact ⟨fun x => x.elim id (fun x => absurd hk (h.hi _ x)), .inl⟩
    · rw [hn key hk]
      show _ ↔ getL es key = some v
      rw [getL_iff' hA, ← h.rst key v hk]
      exact ⟨fun x => x.elim (fun x => absurd (h.lo _ x) hk) id, .inr⟩
end Go.Sx

