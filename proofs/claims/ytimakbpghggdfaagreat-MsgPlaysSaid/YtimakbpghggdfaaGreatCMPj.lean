/- Part of a proof: several parts of a walk, one behind the other. -/
import Derived.Test.YtimakbpghggdfaaGreatCPM
import Derived.Test.YtimakbpghggdfaaGreatCGGj
import Derived.Test.YtimakbpghggdfaaGreatCZH
namespace Go.Sx
open Go
set_option maxRecDepth 10000
theorem getM_last {l : List MD} {key : Bs} {j : Nat} {m : MD} (hm : l[j]? = some m) (hh : hasB (saidR m) key = true) (hn : ∀ j' m', j < j' → l[j']? = some m' → ¬ hasB (saidR m') key = true) : getM l key = some (if m.kd = 1 then some m.v else none) := by
  have hs : l = l.take j ++ m :: l.drop (j + 1) := by rw [← dropG hm, List.take_append_drop]
  rw [hs, getM_app]
  have h0 : getM (l.drop (j + 1)) key = none := getM_none.2 (by
    rintro ⟨x, hx, hk⟩
    obtain ⟨t, ht⟩ := List.getElem?_of_mem hx
    rw [List.getElem?_drop] at ht
    exact hn _ _ (by omega) ht hk)
  rw [getM_cons, if_pos ⟨h0, hh⟩]
theorem ByI.get {l : List MD} {key : Bs} {b : Int} (h : ByI l 0 key b) : (b = -1 ∧ getM l key = none) ∨ ∃ j : Nat, ∃ m, b = (j : Int) ∧ l[j]? = some m ∧ hasB (saidR m) key = true ∧ getM l key = some (if m.kd = 1 then some m.v else none) := by
  rcases h with ⟨h1, h2⟩ | ⟨j, m, h1, _, h3, h4, h5⟩
  · refine .inl ⟨h1, getM_none.2 ?_⟩
    rintro ⟨x, hx, hk⟩
    obtain ⟨t, ht⟩ := List.getElem?_of_mem hx
    exact h2 t x (Nat.zero_le _) ht hk
  · exact .inr ⟨j, m, h1, h3, h4, getM_last h3 h4 h5⟩
/-- Within a stretch nothing changes. -/
theorem cut_same {ms : List MD} {ks : List SB} (hup : RiB ks) (hk : ∀ key, key ∈ ks.map SB.xs ↔ key ∈ edL ms) {i : Nat} {s t : SB} (hs : ks[i]? = some s) (ht : ks[i + 1]? = some t) {key : Bs} (h1 : cmp s.xs key ≤ 0) (h2 : cmp key t.xs < 0) {m : MD} (hm : m ∈ ms) :
    hasB (saidR m) key = true ↔ hasB (saidR m) s.xs = true := by
  by_cases he : emR (saidR m) = true
  · exact ⟨fun g => absurd g (has_em he), fun g => absurd g (has_em he)⟩
  have hf : (saidR m).2.2 = false := said_fin m
  have hin : ∀ x ∈ edM m, x ∈ ks.map SB.xs := fun x hx => (hk x).2 (List.mem_flatMap.2 ⟨m, hm, hx⟩)
  have hed : edM m = [(saidR m).1, (saidR m).2.1] := by unfold edM; rw [if_neg he]
  rw [hed] at hin
  obtain ⟨a, sa, ha1, ha2, ha3⟩ := plA_ex hup (hin (saidR m).1 (by simp))
  obtain ⟨b, sb, hb1, hb2, hb3⟩ := plA_ex hup (hin (saidR m).2.1 (by simp))
  rw [hasB_iff, hasB_iff, hf]
  simp only [Bool.false_eq_true, false_or]
  constructor
  · rintro ⟨g1, g2⟩
    refine ⟨?_, ?_⟩
    · rcases Nat.lt_or_ge i a with g | g
      · rcases Nat.eq_or_lt_of_le g with e | e
        · rw [← e, ht] at ha1
          cases ha1
          rw [ha2] at h2
          have := cmp_anti (saidR m).1 key
          omega
        · have := ha3.lo (i + 1) t e ht
          have h3 := lt_tr h2 (show cmp t.xs (saidR m).1 ≤ 0 by omega)
          have := cmp_anti (saidR m).1 key
          omega
      · have := ha3.hi i s g hs
        have := cmp_anti (saidR m).1 s.xs
        omega
    · exact tr_lt h1 g2
  · rintro ⟨g1, g2⟩
    refine ⟨le_tr g1 h1, ?_⟩
    rcases Nat.lt_or_ge i b with g | g
    · rcases Nat.eq_or_lt_of_le g with e | e
      · rw [← e, ht] at hb1
        cases hb1
        rw [← hb2]
        exact h2
      · have := hb3.lo (i + 1) t e ht
        exact lt_tr h2 (by omega)
    · have := hb3.hi i s g hs
      omega
/-- So far these pieces are what messages mean. -/
structure MnK (ms : List MD) (ps : List PD) (bnd : Bs) : Prop where
  wf : WfP ps
  end_ : ∀ p ∈ ps, cmp (endP p) bnd ≤ 0
  say : ∀ key, cmp key bnd < 0 → ∀ o, PIn ps key o ↔ getM ms key = some o
theorem MnK.nil {ms : List MD} {bnd : Bs} (h : ∀ key, cmp key bnd < 0 → getM ms key = none) : MnK ms [] bnd :=
  ⟨⟨fun p hp => (by cases hp), List.Pairwise.nil⟩, fun p hp => (by cases hp), fun key hk o => by
    rw [h key hk]
    exact ⟨fun ⟨p, hp, _⟩ => (by cases hp), fun g => (by cases g)⟩⟩
theorem MnK.above {ms : List MD} {ps : List PD} {bnd : Bs} (h : MnK ms ps bnd) {key : Bs} (hk : cmp bnd key ≤ 0) {o : Option Bs} : ¬ PIn ps key o := by
  rintro ⟨p, hp, hs⟩
  have h1 := (sp_in (h.wf.1 p hp) hs).2
  have h2 := h.end_ p hp
  have := le_tr h2 hk
  have := cmp_anti key (endP p)
  omega
theorem MnK.mono {ms : List MD} {ps : List PD} {b0 b1 : Bs} (h : MnK ms ps b0) (hb : cmp b0 b1 < 0) (hn : ∀ key, cmp b0 key ≤ 0 → cmp key b1 < 0 → getM ms key = none) : MnK ms ps b1 := by
  refine ⟨h.wf, fun p hp => le_tr (h.end_ p hp) (by omega), fun key hk o => ?_⟩
  by_cases g : cmp key b0 < 0
  · exact h.say key g o
  · have g2 : cmp b0 key ≤ 0 := by have := cmp_anti key b0; omega
    rw [hn key g2 hk]
    exact ⟨fun hp => absurd hp (h.above g2), fun e => by cases e⟩
theorem MnK.snoc {ms : List MD} {ps : List PD} {b0 b1 : Bs} {p : PD} (h : MnK ms ps b0) (hok : okP p) (hat : atP p = b0) (hend : cmp (endP p) b1 ≤ 0) (hb : cmp b0 b1 < 0) (hg : p.put = false → ∀ q ∈ ps, q.put = false → cmp (endP q) b0 < 0)
    (hn : ∀ key, cmp b0 key ≤ 0 → cmp key b1 < 0 → ∀ o, spP p key = some o ↔ getM ms key = some o) : MnK ms (ps ++ [p]) b1 := by
  refine ⟨⟨fun q hq => ?_, ?_⟩, fun q hq => ?_, fun key hk o => ?_⟩
  · rcases List.mem_append.1 hq with hq | hq
    · exact h.wf.1 q hq
    · rw [List.mem_singleton.1 hq]; exact hok
  · refine List.pairwise_append.2 ⟨h.wf.2, List.pairwise_singleton _ _, fun q hq r hr => ?_⟩
    rw [List.mem_singleton.1 hr]
    refine ⟨by rw [hat]; exact h.end_ q hq, fun g1 g2 => ?_⟩
    rw [hat]
    exact hg g2 q hq g1
  · rcases List.mem_append.1 hq with hq | hq
    · exact le_tr (h.end_ q hq) (by omega)
    · rw [List.mem_singleton.1 hq]; exact hend
  · have hsplit : PIn (ps ++ [p]) key o ↔ PIn ps key o ∨ spP p key = some o := by
      constructor
      · rintro ⟨q, hq, hs⟩
        rcases List.mem_append.1 hq with hq | hq
        · exact .inl ⟨q, hq, hs⟩
        · rw [List.mem_singleton.1 hq] at hs; exact .inr hs
      · rintro (⟨q, hq, hs⟩ | hs)
        · exact ⟨q, List.mem_append_left _ hq, hs⟩
        · exact ⟨p, by simp, hs⟩
    rw [hsplit]
    by_cases g : cmp key b0 < 0
    · rw [h.say key g o]
      refine ⟨fun x => x.elim id (fun hs => ?_), .inl⟩
      have := (sp_in hok hs).1
      rw [hat] at this
      have := cmp_anti key b0
      omega
    · have g2 : cmp b0 key ≤ 0 := by have := cmp_anti key b0; omega
      rw [← hn key g2 hk o]
      exact ⟨fun x => x.elim (fun hp => absurd hp (h.above g2)) id, .inr⟩
theorem nef_of {a b : Bs} (h : cmp a b < 0) : Nef (a, b, false) := by
  have he : ¬ emR (a, b, false) = true := by
    rw [emR_iff]
    rintro ⟨_, h2⟩
    have := cmp_anti a b
    simp only at h2
    omega
  refine ⟨?_, he⟩
  unfold foR
  rw [if_neg he]
  simp
theorem MnK.put {ms : List MD} {ps : List PD} {b0 b1 v : Bs} (h : MnK ms ps b0) (hb : cmp b0 b1 < 0) (hv : getM ms b0 = some (some v)) (ho : ∀ key, cmp b0 key ≤ 0 → cmp key b1 < 0 → key = b0) : MnK ms (ps ++ [⟨true, b0, v, t30⟩]) b1 := by
  refine h.snoc rfl rfl ?_ hb (fun g => by cases g) fun key h1 h2 o => ?_
  · show cmp (b0 ++ [0]) b1 ≤ 0
    by_cases g : cmp b1 (b0 ++ [0]) < 0
    · have := near_next b0 b1 hb
      have := cmp_anti b1 (b0 ++ [0])
      omega
    · have := cmp_anti b1 (b0 ++ [0])
      omega
  · obtain rfl := ho key h1 h2
    rw [hv]
    simp [spP]
theorem MnK.gone {ms : List MD} {ps : List PD} {b0 b1 : Bs} (h : MnK ms ps b0) (hb : cmp b0 b1 < 0) (hg : ∀ q ∈ ps, q.put = false → cmp (endP q) b0 < 0) (hn : ∀ key, cmp b0 key ≤ 0 → cmp key b1 < 0 → getM ms key = some none) : MnK ms (ps ++ [⟨false, [], [], (b0, b1, false)⟩]) b1 := by
  refine h.snoc ⟨rfl, rfl, nef_of hb, rfl⟩ rfl (by show cmp b1 b1 ≤ 0; rw [cmp_self]; exact Int.le_refl _) hb (fun _ => hg) fun key h1 h2 o => ?_
  rw [hn key h1 h2]
  have : hasB (b0, b1, false) key = true := hasB_iff.2 ⟨h1, .inr h2⟩
  simp [spP, this, eq_comm]
theorem MnK.far {ms : List MD} {qs : List PD} {p : PD} {b0 : Bs} (h : MnK ms (qs ++ [p]) b0) (hl : p.put = false → cmp (endP p) b0 < 0) : ∀ q ∈ qs ++ [p], q.put = false → cmp (endP q) b0 < 0 := by
  intro q hq hg
  have hpw := List.pairwise_append.1 h.wf.2
  have hp : p ∈ qs ++ [p] := by simp
  rcases List.mem_append.1 hq with hq | hq
  · have h1 := (hpw.2.2 q hq p (by simp)).1
    have h2 := at_end (h.wf.1 p hp)
    have h3 := h.end_ p hp
    have h4 := lt_tr h2 h3
    have := cmp_anti (endP q) b0
    by_cases g : cmp (endP q) b0 < 0
    · exact g
    · have := lt_tr h4 (show cmp b0 (endP q) ≤ 0 by omega)
      have := cmp_anti (endP q) (atP p)
      omega
  · rw [List.mem_singleton.1 hq] at hg ⊢
    exact hl hg
theorem MnK.ext {ms : List MD} {qs : List PD} {x b0 b1 : Bs} (h : MnK ms (qs ++ [⟨false, [], [], (x, b0, false)⟩]) b0) (hb : cmp b0 b1 < 0) (hn : ∀ key, cmp b0 key ≤ 0 → cmp key b1 < 0 → getM ms key = some none) : MnK ms (qs ++ [⟨false, [], [], (x, b1, false)⟩]) b1 := by
  have hlast : okP ⟨false, [], [], (x, b0, false)⟩ := h.wf.1 _ (by simp)
  have hx : cmp x b0 < 0 := at_end hlast
  have hpw := List.pairwise_append.1 h.wf.2
  have hq : MnK ms qs x := by
    refine ⟨⟨fun p hp => h.wf.1 p (List.mem_append_left _ hp), hpw.1⟩, fun p hp => (hpw.2.2 p hp ⟨false, [], [], (x, b0, false)⟩ (by simp)).1, fun key hk o => ?_⟩
    rw [← h.say key (lt_tr hk (by omega)) o]
    refine ⟨fun ⟨p, hp, hs⟩ => ⟨p, List.mem_append_left _ hp, hs⟩, fun ⟨p, hp, hs⟩ => ?_⟩
    rcases List.mem_append.1 hp with hp | hp
    · exact ⟨p, hp, hs⟩
    · rw [List.mem_singleton.1 hp] at hs
      have := (sp_in hlast hs).1
      have h0 : atP ⟨false, [], [], (x, b0, false)⟩ = x := rfl
      rw [h0] at this
      have := cmp_anti key x
      omega
  refine hq.gone (lt_tr hx (by omega)) (fun p hp g => (hpw.2.2 p hp ⟨false, [], [], (x, b0, false)⟩ (by simp)).2 g rfl) fun key h1 h2 => ?_
  by_cases g : cmp key b0 < 0
  · rw [← h.say key g none]
    exact ⟨_, List.mem_append_right _ (List.mem_singleton.2 rfl), by
      have : hasB (x, b0, false) key = true := hasB_iff.2 ⟨h1, .inr g⟩
      simp [spP, this]⟩
  · exact hn key (by have := cmp_anti key b0; omega) h2
theorem MnK.fin {ms : List MD} {ps : List PD} {bnd : Bs} (h : MnK ms ps bnd) (hn : ∀ key, cmp bnd key ≤ 0 → getM ms key = none) : IsMean ms ps := by
  refine ⟨h.wf, fun key o => ?_⟩
  by_cases g : cmp key bnd < 0
  · exact h.say key g o
  · have g2 : cmp bnd key ≤ 0 := by have := cmp_anti key bnd; omega
    rw [hn key g2]
    exact ⟨fun hp => absurd hp (h.above g2), fun e => by cases e⟩
end Go.Sx
namespace Go.Sx
open Go Go.Proofs
set_option maxRecDepth 10000
variable {w0 : World} {H : List Ck}
instance celBool : Cel Bool := ⟨1, fun x => [.bool x], fun _ => rfl, fun _ => rfl, Nat.one_pos⟩
instance : ElT Tryz.prog 4 Bool := ⟨trivial⟩
instance {P : Program} {E : TypeId} [h : ZeT P E (.bool false)] : ZxT P E Bool false := ⟨_, h.run, rfl⟩
/-- A message is the last one that says something of some key just if Cuts tells its number somewhere. -/
theorem keep_iff {ms : List MD} {ks : List SB} {bs : List Int} (hup : RiB ks) (hk : ∀ key, key ∈ ks.map SB.xs ↔ key ∈ edL ms) (hl : bs.length = ks.length) (hby : ∀ (t : Nat) (s : SB), ks[t]? = some s → ∃ b, bs[t]? = some b ∧ ByI ms 0 s.xs b) {j : Nat} {m : MD} (hm : ms[j]? = some m) :
    KeepM m (ms.drop (j + 1)) ↔ (j : Int) ∈ bs := by
  constructor
  · rintro ⟨key, h1, h2⟩
    have he : ¬ emR (saidR m) = true := fun g => has_em g h1
    have hin : ∀ x ∈ edM m, x ∈ ks.map SB.xs := fun x hx => (hk x).2 (List.mem_flatMap.2 ⟨m, List.mem_of_getElem? hm, hx⟩)
    have hed : edM m = [(saidR m).1, (saidR m).2.1] := by unfold edM; rw [if_neg he]
    rw [hed] at hin
    obtain ⟨a, sa, ha1, ha2, ha3⟩ := plA_ex hup (hin (saidR m).1 (by simp))
    obtain ⟨b, sb, hb1, hb2, hb3⟩ := plA_ex hup (hin (saidR m).2.1 (by simp))
    have hf : (saidR m).2.2 = false := said_fin m
    have hh := hasB_iff.1 h1
    rw [hf] at hh
    obtain ⟨g1, g2⟩ := hh
    have g2 := g2.resolve_left (by decide)
    -- the stretch that has the key
    obtain ⟨i, s, t, hs, ht, q1, q2⟩ : ∃ i s t, ks[i]? = some s ∧ ks[i + 1]? = some t ∧ cmp s.xs key ≤ 0 ∧ cmp key t.xs < 0 := by
      have hbl := (List.getElem?_eq_some_iff.1 hb1).1
      have aux : ∀ n, ∀ i s, i + n = b → ks[i]? = some s → cmp s.xs key ≤ 0 → ∃ i s t, ks[i]? = some s ∧ ks[i + 1]? = some t ∧ cmp s.xs key ≤ 0 ∧ cmp key t.xs < 0 := by
        intro n
        induction n with
        | zero =>
          intro i s hi hs hc
          obtain rfl : i = b := by omega
          rw [hb1] at hs
          cases hs
          rw [hb2] at hc
          have := cmp_anti key (saidR m).2.1
          omega
        | succ n ih =>
          intro i s hi hs hc
          obtain ⟨t, ht⟩ := get_lt ks (i + 1) (by omega)
          by_cases g : cmp key t.xs < 0
          · exact ⟨i, s, t, hs, ht, hc, g⟩
          · exact ih (i + 1) t (by omega) ht (by have := cmp_anti key t.xs; omega)
      have hab : a ≤ b := by
        rcases Nat.lt_or_ge b a with g | g
        · have h3 := hup.lt g hb1 ha1
          rw [ha2, hb2] at h3
          have h4 := tr_lt g1 g2
          have := cmp_anti (saidR m).1 (saidR m).2.1
          omega
        · exact g
      exact aux (b - a) a sa (by omega) ha1 (by rw [ha2]; exact g1)
    obtain ⟨b', hb', hbI⟩ := hby i s hs
    have e : getM ms key = getM ms s.xs := getM_congr fun x hx => cut_same hup hk hs ht q1 q2 hx
    have hms : hasB (saidR m) s.xs = true := (cut_same hup hk hs ht q1 q2 (List.mem_of_getElem? hm)).1 h1
    have hlater : ∀ j' m', j < j' → ms[j']? = some m' → ¬ hasB (saidR m') s.xs = true := fun j' m' hj hx hh => by
      have h3 : hasB (saidR m') key = true := (cut_same hup hk hs ht q1 q2 (List.mem_of_getElem? hx)).2 hh
      refine getM_none.1 h2 ⟨m', ?_, h3⟩
      refine List.mem_iff_getElem?.2 ⟨j' - (j + 1), ?_⟩
      rw [List.getElem?_drop, show j + 1 + (j' - (j + 1)) = j' by omega]
      exact hx
    rcases hbI with ⟨rfl, h3⟩ | ⟨j2, m2, rfl, _, h4, h5, h6⟩
    · exact absurd hms (h3 j m (Nat.zero_le _) hm)
    · have : j2 = j := by
        rcases Nat.lt_trichotomy j2 j with g | g | g
        · exact absurd hms (h6 j m g hm)
        · exact g
        · exact absurd h5 (hlater j2 m2 g h4)
      subst this
      exact List.mem_of_getElem? hb'
  · intro h
    obtain ⟨t, ht⟩ := List.getElem?_of_mem h
    obtain ⟨s, hs⟩ := get_lt ks t (by have := (List.getElem?_eq_some_iff.1 ht).1; omega)
    obtain ⟨b, hb, hbI⟩ := hby t s hs
    rw [ht] at hb
    obtain rfl := Option.some.inj hb
    rcases hbI with ⟨h3, _⟩ | ⟨j2, m2, h3, _, h4, h5, h6⟩
    · omega
    · obtain rfl : j = j2 := by omega
      rw [hm] at h4
      cases h4
      refine ⟨s.xs, h5, getM_none.2 ?_⟩
      rintro ⟨x, hx, hh⟩
      obtain ⟨u, hu⟩ := List.getElem?_of_mem hx
      rw [List.getElem?_drop] at hu
      exact h6 _ x (by omega) hu hh
structure RsI where
  i : Nat
  a : Option Addr
  c : Nat
  os : List Mg
set_option maxHeartbeats 4000000 in
theorem rsettle_s {a : Option Addr} {c : Nat} {ms : List Mg} (hm : RMs w0 H a c ms) (hl : ms.length ≤ 137438953472) (hz : ∀ m ∈ ms, m.lo.length ≤ 140737488355327 ∧ m.hi.length ≤ 140737488355328 ∧ m.v.length ≤ 140737488355328) :
    FnS Tryz.prog w0 H 97 #[.slice a ms.length c] (fun v H' => ∃ a' c' ls, v = .slice a' (ls : List Mg).length c' ∧ ls.map Mg.d = setlL (ms.map Mg.d) ∧ H' = ol 35 a' c' ls :: stars oM ls :: H) := by
  refine fns_enter Tryz.func97 rfl rfl rfl ?_
  have hsl := hm.sl
  refine s_kn (Kn.sl hsl) fun ⟨l1, l2⟩ => ?_
  simp only [maxLen] at l2
  refine sx ?_
  refine s_call rfl (rcuts_s hm hl (fun m h => ⟨(hz m h).1, (hz m h).2.1⟩)) ?_
  rintro _ _ ⟨ka, kc, ks, ba, bc, bs, L, rfl, rfl, hC⟩
  refine ⟨chk_seq, ?_⟩
  obtain ⟨hup, hbl, hlim, hkey, hby, hrk, hrs, hrb⟩ := hC
  rw [List.length_map] at hlim
  have hkeep : ∀ {j : Nat} {m : MD}, (ms.map Mg.d)[j]? = some m → (KeepM m ((ms.map Mg.d).drop (j + 1)) ↔ (j : Int) ∈ bs) := fun h => keep_iff hup hkey hbl hby h
  have hbd : ∀ {t : Nat} {b : Int}, bs[t]? = some b → b = -1 ∨ ∃ j : Nat, b = (j : Int) ∧ j < ms.length := fun {t b} h => by
    obtain ⟨s, hs⟩ := get_lt ks t (by have := (List.getElem?_eq_some_iff.1 h).1; omega)
    obtain ⟨b', h1, h2⟩ := hby t s hs
    rw [h] at h1
    obtain rfl := Option.some.inj h1
    rcases h2 with ⟨h3, _⟩ | ⟨j, m, h3, _, h4, _⟩
    · exact .inl h3
    · exact .inr ⟨j, h3, by have := (List.getElem?_eq_some_iff.1 h4).1; rwa [List.length_map] at this⟩
  refine sx ?_
  refine s_make (α := Bool) (c := ms.length) rfl rfl ⟨by omega, by omega⟩ fun bl => ?_
  refine sx ?_
  refine s_loop (fun q : Nat × List Bool => [(0, .slice a ms.length c), (3, .slice ka ks.length kc), (4, .slice ba bs.length bc), (5, .slice (some bl) q.2.length ms.length), (6, .int .i64 q.1)]) (fun q => ol 4 (some bl) ms.length q.2 :: .star L :: H) (fun q => q.1 ≤ ks.length ∧ q.2.length = ms.length ∧ ∀ j, j < ms.length → q.2[j]? = some (decide ((j : Int) ∈ bs.take q.1))) (fun q => ks.length - q.1) (0, List.replicate ms.length false) ⟨Nat.zero_le _, by simp, fun j hj => by simp [hj]⟩ ?_ (h0 := by simp only [List.length_replicate]; repeat (first | exact trivial | refine And.intro (by first | exact rfl | exact congrArg some (ci (by omega))) ?_))
  rintro ⟨i, fl⟩ ⟨g1, g2, g3⟩
  simp only at g1 g2 g3 ⊢
  refine sx ?_
  refine s_if rfl (fun t1 => ?_) (fun t1 => ?_)
  · have t1 : (i : Int) < (ks.length : Int) := t1
    obtain ⟨b, hb⟩ := get_lt bs i (by omega)
    have hrb' : RSl w0 (ol 4 (some bl) ms.length fl :: .star L :: H) ba bc bs := hrb.tl
    rcases hbd hb with rfl | ⟨j, rfl, hj⟩
    · refine sx ?_
      refine s_again (i + 1, fl) ⟨by simp only; omega, g2, fun t ht => ?_⟩ (by simp only; omega)
      simp only
      rw [g3 t ht, snocT hb, decide_eq_decide.2 ?_]
      rw [List.mem_append, List.mem_singleton]
      exact ⟨.inl, fun h => h.elim id (fun h => by omega)⟩
    · refine sx ?_
      refine s_set1g (i := j) (y := true) rfl rfl (by exact at_) rfl (by omega) ?_
      refine sx ?_
      refine s_again (i + 1, fl.set j true) ⟨by simp only; omega, by simp only [List.length_set]; exact g2, fun t ht => ?_⟩ (by simp only; omega) (hs := by simp only [List.length_set]; repeat (first | exact trivial | refine And.intro (by first | exact rfl | exact congrArg some (ci (by omega))) ?_))
      simp only
      rw [snocT hb]
      by_cases h : j = t
      · subst h
        rw [List.getElem?_set_self (by omega), decide_eq_true (by simp)]
      · rw [List.getElem?_set_ne h, g3 t ht, decide_eq_decide.2 ?_]
        rw [List.mem_append, List.mem_singleton]
        exact ⟨.inl, fun h => h.elim id (fun h => by omega)⟩
  have t1 : ¬ (i : Int) < (ks.length : Int) := t1
  obtain rfl : i = ks.length := by omega
  rw [List.take_of_length_le (by omega)] at g3
  refine sx ?_
  refine s_loop (fun q : RsI => [(0, .slice a ms.length c), (5, .slice (some bl) fl.length ms.length), (7, .slice q.a q.os.length q.c), (8, .int .i64 q.i)]) (fun q => ol 35 q.a q.c q.os :: stars oM q.os :: ol 4 (some bl) ms.length fl :: H) (fun q => q.i ≤ ms.length ∧ q.os.length ≤ q.i ∧ q.os.map Mg.d ++ setlL ((ms.map Mg.d).drop q.i) = setlL (ms.map Mg.d)) (fun q => ms.length - q.i) ⟨0, none, 0, []⟩ ⟨Nat.zero_le _, Nat.le_refl _, by simp⟩ ?_ (he := Ent.nilS.trans (Ent.head (stars_nil.trans (Ent.head (by exact ent)))))
  rintro ⟨i, oa, oc, os⟩ ⟨q1, q2, q3⟩
  simp only at q1 q2 q3 ⊢
  refine sx ?_
  refine s_if rfl (fun t2 => ?_) (fun t2 => ?_)
  · have t2 : (i : Int) < (ms.length : Int) := t2
    obtain ⟨m, hmi⟩ := get_lt ms i (by omega)
    have hmd := get_map (f := Mg.d) hmi
    have hmr := hm.el m (List.mem_of_getElem? hmi)
    obtain ⟨z1, z2, z3⟩ := hz m (List.mem_of_getElem? hmi)
    have hf := g3 i (by omega)
    rw [dropG hmd] at q3
    refine sx ?_
    refine s_if rfl (fun t3 => ?_) (fun t3 => ?_)
    · rw [setl_yes ((hkeep hmd).2 t3)] at q3
      refine sx ?_
      refine s_call rfl (rcopy7_s hmr.tl.tl.tl (by omega) (by omega) (by omega)) ?_
      rintro _ _ ⟨m', rfl, hd, rfl⟩
      refine ⟨chk_seq, ?_⟩
      refine sx ?_
      refine s_bsl [m'] rfl rfl fun b50 => ?_
      refine s_app (xs := os) (ys := [m']) ?_ (hby := by simp only [List.length_cons, List.length_nil]; omega)
      intro a4 c4
      refine sx ?_
      refine s_again ⟨i + 1, a4, c4, os ++ [m']⟩ ⟨by simp only; omega, by simp only [List.length_append, List.length_cons, List.length_nil]; omega, ?_⟩ (by simp only; omega) (he := ?_)
      · simp only
        rw [List.map_append, List.append_assoc, List.map_cons, List.map_nil, hd]
        exact q3
      · refine Ent.cons (by exact rm) ?_
        refine Ent.trans (H' := oM m' ++ stars oM os :: ol 4 (some bl) ms.length fl :: H) ?_ stars_snoc
        show Ent _ (_ :: _ :: _ :: stars oM os :: ol 4 (some bl) ms.length fl :: H)
        exact ent
    · rw [setl_no (fun g => t3 ((hkeep hmd).1 g))] at q3
      refine sx ?_
      exact s_again ⟨i + 1, oa, oc, os⟩ ⟨by simp only; omega, by simp only; omega, q3⟩ (by simp only; omega)
  · have t2 : ¬ (i : Int) < (ms.length : Int) := t2
    obtain rfl : i = ms.length := by omega
    rw [List.drop_of_length_le (by simp)] at q3
    refine sx ?_
    exact s_ret1 rfl rfl ⟨oa, oc, os, rfl, by rw [← q3]; simp [setlL], rfl⟩
end Go.Sx
namespace Go.Sx
open Go
def mrg (key : Int → Bs) : Nat → List Int → List Int → List Int
  | 0, a, b => a ++ b
  | _ + 1, [], b => b
  | _ + 1, a, [] => a
  | n + 1, x :: a, y :: b => if cmp (key x) (key y) ≤ 0 then x :: mrg key n a (y :: b) else y :: mrg key n (x :: a) b
abbrev mrgL (key : Int → Bs) (a b : List Int) : List Int := mrg key (a.length + b.length) a b
theorem mrg_nilL {key : Int → Bs} : ∀ {n : Nat} {b : List Int}, mrg key n [] b = b
  | 0, _ => rfl
  | _ + 1, _ => by simp [mrg]
theorem mrg_nilR {key : Int → Bs} : ∀ {n : Nat} {a : List Int}, mrg key n a [] = a
  | 0, _ => by simp [mrg]
  | _ + 1, [] => by simp [mrg]
  | _ + 1, _ :: _ => by simp [mrg]
theorem mrgL_le {key : Int → Bs} {x y : Int} {a b : List Int} (h : cmp (key x) (key y) ≤ 0) : mrgL key (x :: a) (y :: b) = x :: mrgL key a (y :: b) := by
  unfold mrgL
  rw [show (x :: a).length + (y :: b).length = (a.length + (y :: b).length) + 1 by simp only [List.length_cons]; omega, mrg, if_pos h]
theorem mrgL_gt {key : Int → Bs} {x y : Int} {a b : List Int} (h : ¬ cmp (key x) (key y) ≤ 0) : mrgL key (x :: a) (y :: b) = y :: mrgL key (x :: a) b := by
  unfold mrgL
  rw [show (x :: a).length + (y :: b).length = ((x :: a).length + b.length) + 1 by simp only [List.length_cons]; omega, mrg, if_neg h]
theorem mrg_is {g : Int → KV} : ∀ (n : Nat) (a b : List Int), a.length + b.length ≤ n → Asc (a.map g) → Asc (b.map g) → Mrg (a.map g ++ b.map g) ((mrgL (fun i => (g i).k) a b).map g)
  | n, [], b, _, _, hb => by
    unfold mrgL
    rw [mrg_nilL]
    exact ⟨Stb.refl _, hb⟩
  | n, x :: a, [], _, ha, _ => by
    unfold mrgL
    rw [mrg_nilR, List.map_nil, List.append_nil]
    exact ⟨Stb.refl _, ha⟩
  | 0, x :: a, y :: b, h, _, _ => by simp at h
  | n + 1, x :: a, y :: b, h, ha, hb => by
    obtain ⟨a1, a2⟩ := List.pairwise_cons.1 ha
    obtain ⟨b1, b2⟩ := List.pairwise_cons.1 hb
    simp only [List.length_cons] at h
    by_cases hc : cmp (g x).k (g y).k ≤ 0
    · rw [mrgL_le hc]
      have ih := mrg_is n a (y :: b) (by simp only [List.length_cons]; omega) a2 hb
      refine ⟨(Stb.refl [g x]).app ih.st, List.pairwise_cons.2 ⟨fun e he => ?_, ih.up⟩⟩
      rcases List.mem_append.1 (ih.st.perm.mem_iff.2 he) with h1 | h1
      · exact a1 e h1
      · rcases List.mem_cons.1 h1 with rfl | h1
        · exact hc
        · exact (cmp_lt_trans _ _ _ hc (b1 e h1)).1
    · rw [mrgL_gt hc]
      have ih := mrg_is n (x :: a) b (by simp only [List.length_cons]; omega) ha b2
      have hyx : cmp (g y).k (g x).k < 0 := by have := cmp_anti (g x).k (g y).k; omega
      have hall : ∀ e ∈ (x :: a).map g, cmp (g y).k e.k < 0 := by
        intro e he
        rcases List.mem_cons.1 he with rfl | he
        · exact hyx
        · exact lt_tr hyx (a1 e he)
      refine ⟨?_, List.pairwise_cons.2 ⟨fun e he => ?_, ih.up⟩⟩
      · have s1 : Stb ((x :: a).map g ++ (g y :: b.map g)) (g y :: ((x :: a).map g ++ b.map g)) := by
          have h1 := (Stb.swap (u := (x :: a).map g) (v := [g y]) fun e he f hf q => by
            have := hall e he
            rw [List.mem_singleton.1 hf] at q
            rw [q, cmp_self] at this
            omega).app (Stb.refl (b.map g))
          simpa using h1
        exact s1.trans ((Stb.refl [g y]).app ih.st)
      · rcases List.mem_append.1 (ih.st.perm.mem_iff.2 he) with h1 | h1
        · have := hall e h1
          omega
        · exact b1 e h1
theorem mrg_mem {key : Int → Bs} {i : Int} : ∀ (n : Nat) (a b : List Int), a.length + b.length ≤ n → i ∈ mrgL key a b → i ∈ a ∨ i ∈ b
  | n, [], b, _, h => by unfold mrgL at h; rw [mrg_nilL] at h; exact .inr h
  | n, x :: a, [], _, h => by unfold mrgL at h; rw [mrg_nilR] at h; exact .inl h
  | 0, x :: a, y :: b, h, _ => by simp at h
  | n + 1, x :: a, y :: b, h, hi => by
    simp only [List.length_cons] at h
    by_cases hc : cmp (key x) (key y) ≤ 0
    · rw [mrgL_le hc] at hi
      rcases List.mem_cons.1 hi with rfl | hi
      · exact .inl (by simp)
      · rcases mrg_mem n a (y :: b) (by simp only [List.length_cons]; omega) hi with h | h
        · exact .inl (List.mem_cons_of_mem _ h)
        · exact .inr h
    · rw [mrgL_gt hc] at hi
      rcases List.mem_cons.1 hi with rfl | hi
      · exact .inr (by simp)
      · rcases mrg_mem n (x :: a) b (by simp only [List.length_cons]; omega) hi with h | h
        · exact .inl h
        · exact .inr (List.mem_cons_of_mem _ h)
/-- What is left to be laid, by how far one is. -/
theorem mrg_left {key : Int → Bs} {A B : List Int} {i k : Nat} {x y : Int} (hx : A[i]? = some x) (hy : B[k]? = some y) : mrgL key (A.drop i) (B.drop k) = if cmp (key x) (key y) ≤ 0 then x :: mrgL key (A.drop (i + 1)) (B.drop k) else y :: mrgL key (A.drop i) (B.drop (k + 1)) := by
  have hA : A.drop i = x :: A.drop (i + 1) := List.drop_eq_getElem?_toList_append.trans (by rw [hx]; rfl)
  have hB : B.drop k = y :: B.drop (k + 1) := List.drop_eq_getElem?_toList_append.trans (by rw [hy]; rfl)
  split
  · rename_i h
    rw [hA, hB, mrgL_le h]
  · rename_i h
    rw [hA, hB, mrgL_gt h]
end Go.Sx

