/- Part of a proof: several parts of a walk, one behind the other. -/
import Derived.Test.YtpnhoafmlhlfgaaGreatCGIj
import Derived.Test.YtpnhoafmlhlfgaaGreatCGBj
import Derived.Test.YtpnhoafmlhlfgaaGreatCOBj
import Derived.Test.YtpnhoafmlhlfgaaGreatCGDj
import Derived.Test.YtpnhoafmlhlfgaaGreatCMVj
import Derived.Test.YtpnhoafmlhlfgaaGreatCMW
namespace Go.Sx
open Go
end Go.Sx
namespace Go.Sx
open Go
end Go.Sx
namespace Go.Sx
open Go
theorem getM_congr {k t : Bs} : ∀ {l : List MD}, (∀ m ∈ l, (hasB (saidR m) k = true ↔ hasB (saidR m) t = true)) → getM l k = getM l t
  | [], _ => rfl
  | m :: r, h => by
    rw [getM_cons, getM_cons, getM_congr fun x hx => h x (by simp [hx])]
    by_cases g : hasB (saidR m) k = true
    · simp [g, (h m (by simp)).1 g]
    · have : ¬ hasB (saidR m) t = true := fun q => g ((h m (by simp)).2 q)
      simp [g, this]
/-! Within. -/
end Go.Sx
namespace Go.Sx
open Go
set_option maxRecDepth 10000
/-! There is a meaning of any messages. -/
theorem srt_ex {α : Type} (f : α → Bs) (l : List α) : ∃ s : List α, l.Perm s ∧ s.Pairwise fun a b => cmp (f a) (f b) ≤ 0 := by
  refine ⟨l.mergeSort (fun a b => decide (cmp (f a) (f b) ≤ 0)), (List.mergeSort_perm l _).symm, ?_⟩
  have h := List.pairwise_mergeSort (le := fun a b => decide (cmp (f a) (f b) ≤ 0)) (fun a b c h1 h2 => by
    simp only [decide_eq_true_eq] at *
    exact le_tr h1 h2) (fun a b => by
    have := cmp_anti (f a) (f b)
    simp only [Bool.or_eq_true, decide_eq_true_eq]
    omega) l
  exact h.imp fun h => by simpa using h
theorem cv_ex (l : List T3) : ∃ c, IsCv l c := by
  obtain ⟨s, h1, h2⟩ := srt_ex (fun d : T3 => d.1) ((l.filter fun d => !emR d).map foR)
  exact ⟨_, cvP_is h1.symm h2⟩
theorem mn_ex : ∀ l : List MD, ∃ over gone puts, MnSt l over gone puts
  | [] => ⟨[], [], [], MnSt.nil⟩
  | m :: r => by
    obtain ⟨over, gone, puts, h⟩ := mn_ex r
    by_cases hw : woR (saidR m) over = []
    · exact ⟨_, _, _, h.skip hw⟩
    · obtain ⟨c, hc⟩ := cv_ex (over ++ [saidR m])
      by_cases hk : m.kd = 1
      · exact ⟨_, _, _, h.put hw hk hc⟩
      · exact ⟨_, _, _, h.gone hk hc⟩
theorem mean_ex (l : List MD) : ∃ ps, IsMean l ps := by
  obtain ⟨over, gone, puts, h⟩ := mn_ex l
  obtain ⟨c, hc⟩ := cv_ex gone
  obtain ⟨s, h1, h2⟩ := srt_ex atP (puts ++ c.map gpP)
  exact ⟨s, mean_of h hc h1 h2⟩
theorem puts_ri (ms : List MD) : RiL (putsM ms) := by
  obtain ⟨ps, h⟩ := mean_ex ms
  rw [putsM_eq h]
  exact ptsL_lt h
theorem puts_get (ms : List MD) (k v : Bs) : getL (putsM ms) k = some v ↔ getM ms k = some (some v) := by
  obtain ⟨ps, h⟩ := mean_ex ms
  rw [putsM_eq h]
  constructor
  · intro hg
    obtain ⟨p, hp, e⟩ := List.mem_map.1 (getL_mem hg)
    obtain ⟨h1, h2⟩ := List.mem_filter.1 hp
    cases e
    exact put_get h h1 h2
  · intro hg
    obtain ⟨p, hp, hs⟩ := (h.2 k (some v)).2 hg
    unfold spP at hs
    split at hs
    · rename_i hput
      split at hs
      · rename_i hk
        have hv : p.v = v := by simpa using hs
        have := getL_at (ptsL_lt h) (p := (p.key, p.v)) (List.mem_map.2 ⟨p, List.mem_filter.2 ⟨hp, hput⟩, rfl⟩)
        rw [← hk, ← hv]
        exact this
      · cases hs
    · split at hs <;> cases hs
theorem puts_len (ms : List MD) : (putsM ms).length ≤ ms.length := by
  obtain ⟨ps, h⟩ := mean_ex ms
  rw [putsM_eq h]
  exact ptsL_len h
theorem puts_mem {ms : List MD} {e : Pp} (he : e ∈ putsM ms) : ∃ m ∈ ms, m.v = e.2 ∧ m.lo = e.1 := by
  obtain ⟨ps, h⟩ := mean_ex ms
  rw [putsM_eq h] at he
  obtain ⟨m, h1, _, h2, h3⟩ := ptsL_mem h he
  exact ⟨m, h1, h2, h3⟩
/-! What is told of a key. -/
theorem withL_mem {sd : Bs → Bool} : ∀ {L ps : List Pp} {e : Pp}, e ∈ withL sd ps L → e ∈ ps ∨ e ∈ L
  | [], ps, e, h => .inl h
  | x :: r, ps, e, h => by
    unfold withL at h
    rcases List.mem_append.1 h with h | h
    · exact .inl ((List.takeWhile_sublist _).subset h)
    · rcases List.mem_append.1 h with h | h
      · split at h
        · cases h
        · exact .inr (by rw [List.mem_singleton.1 h]; simp)
      · rcases withL_mem h with h | h
        · exact .inl ((List.dropWhile_sublist _).subset h)
        · exact .inr (List.mem_cons_of_mem _ h)
theorem withL_len {sd : Bs → Bool} : ∀ {L ps : List Pp}, (withL sd ps L).length ≤ ps.length + L.length
  | [], ps => by simp [withL]
  | x :: r, ps => by
    unfold withL
    have h1 := withL_len (sd := sd) (L := r) (ps := ps.dropWhile fun p => ahP false x.1 p.1)
    have h2 : (ps.takeWhile fun p => ahP false x.1 p.1).length + (ps.dropWhile fun p => ahP false x.1 p.1).length = ps.length := by
      rw [← List.length_append, List.takeWhile_append_dropWhile]
    have h3 : (if sd x.1 = true then ([] : List Pp) else [x]).length ≤ 1 := by split <;> simp
    simp only [List.length_append, List.length_cons]
    omega
theorem tw_lt {key : Bs} {ps : List Pp} {p : Pp} (h : p ∈ ps.takeWhile fun p => ahP false key p.1) : cmp p.1 key < 0 := by
  have := List.all_takeWhile (p := fun p : Pp => ahP false key p.1) (l := ps)
  have := List.all_eq_true.1 this p h
  simpa [ahP] using this
theorem dw_ge {key : Bs} : ∀ {ps : List Pp}, RiL ps → ∀ p ∈ ps.dropWhile (fun p => ahP false key p.1), 0 ≤ cmp p.1 key
  | [], _, p, h => by cases h
  | q :: ps, hr, p, h => by
    obtain ⟨h1, h2⟩ := List.pairwise_cons.1 hr
    rw [List.dropWhile_cons] at h
    split at h
    · exact dw_ge h2 p h
    · rename_i hc
      have hc : ¬ cmp q.1 key < 0 := by simpa [ahP] using hc
      rcases List.mem_cons.1 h with rfl | h
      · omega
      · have h3 := h1 p h
        by_cases g : cmp p.1 key ≤ 0
        · have := lt_tr h3 g
          omega
        · omega
/-- Puts are among what is said. -/
def SdOf (sd : Bs → Bool) (ps : List Pp) : Prop := ∀ p ∈ ps, sd p.1 = true
theorem withL_ri {sd : Bs → Bool} : ∀ {L ps : List Pp}, RiL L → RiL ps → SdOf sd ps → RiL (withL sd ps L)
  | [], ps, _, h, _ => h
  | x :: r, ps, hL, hp, hs => by
    obtain ⟨h1, h2⟩ := List.pairwise_cons.1 hL
    have hd := hp.sublist (List.dropWhile_sublist (fun p => ahP false x.1 p.1))
    have hsd : SdOf sd (ps.dropWhile fun p => ahP false x.1 p.1) := fun p h => hs p ((List.dropWhile_sublist _).subset h)
    have ih := withL_ri h2 hd hsd
    unfold withL
    refine List.pairwise_append.2 ⟨hp.sublist (List.takeWhile_sublist _), ?_, ?_⟩
    · refine List.pairwise_append.2 ⟨?_, ih, ?_⟩
      · split <;> simp
      · intro a ha b hb
        split at ha
        · cases ha
        · rename_i hx
          obtain rfl := List.mem_singleton.1 ha
          rcases withL_mem hb with hb | hb
          · have hge := dw_ge hp b hb
            have hne : b.1 ≠ a.1 := fun e => hx (by rw [← e]; exact hsd b hb)
            have := cmp_anti b.1 a.1
            have h0 : cmp b.1 a.1 ≠ 0 := fun e => hne ((cmp_eq _ _).1 e)
            omega
          · exact h1 b hb
    · intro a ha b hb
      have hlt := tw_lt ha
      rcases List.mem_append.1 hb with hb | hb
      · split at hb
        · cases hb
        · rw [List.mem_singleton.1 hb]; exact hlt
      · rcases withL_mem hb with hb | hb
        · have := dw_ge hp b hb
          have := cmp_anti b.1 x.1
          exact lt_tr hlt (by omega)
        · have := h1 b hb
          exact lt_tr hlt (by omega)
theorem getL_iff {l : List Pp} (h : RiL l) {k v : Bs} : getL l k = some v ↔ (k, v) ∈ l := ⟨getL_mem, fun g => getL_at h g⟩
theorem withL_in {sd : Bs → Bool} {p : Pp} : ∀ {L ps : List Pp}, p ∈ ps ∨ (p ∈ L ∧ sd p.1 = false) → p ∈ withL sd ps L
  | [], ps, h => by
    rcases h with h | ⟨h, _⟩
    · exact h
    · cases h
  | x :: r, ps, h => by
    unfold withL
    rcases h with h | ⟨h, hs⟩
    · rw [← List.takeWhile_append_dropWhile (p := fun p => ahP false x.1 p.1) (l := ps)] at h
      rcases List.mem_append.1 h with h | h
      · exact List.mem_append_left _ h
      · exact List.mem_append_right _ (List.mem_append_right _ (withL_in (.inl h)))
    · rcases List.mem_cons.1 h with rfl | h
      · exact List.mem_append_right _ (List.mem_append_left _ (by rw [if_neg (by simp [hs])]; simp))
      · exact List.mem_append_right _ (List.mem_append_right _ (withL_in (.inr ⟨h, hs⟩)))
theorem withL_out {sd : Bs → Bool} {p : Pp} : ∀ {L ps : List Pp}, p ∈ withL sd ps L → p ∈ ps ∨ (p ∈ L ∧ sd p.1 = false)
  | [], ps, h => .inl h
  | x :: r, ps, h => by
    unfold withL at h
    rcases List.mem_append.1 h with h | h
    · exact .inl ((List.takeWhile_sublist _).subset h)
    · rcases List.mem_append.1 h with h | h
      · split at h
        · cases h
        · rename_i hx
          obtain rfl := List.mem_singleton.1 h
          exact .inr ⟨by simp, by simpa using hx⟩
      · rcases withL_out h with h | ⟨h, hs⟩
        · exact .inl ((List.dropWhile_sublist _).subset h)
        · exact .inr ⟨List.mem_cons_of_mem _ h, hs⟩
/-- Entries as messages leave them. -/
noncomputable def wiM (ms : List MD) (L : List Pp) : List Pp := withL (sdM ms) (putsM ms) L
theorem sd_puts (ms : List MD) : SdOf (sdM ms) (putsM ms) := fun p hp => by
  have := (puts_get ms p.1 p.2).1 (getL_at (puts_ri ms) hp)
  unfold sdM
  rw [this]
  rfl
theorem wi_ri {ms : List MD} {L : List Pp} (h : RiL L) : RiL (wiM ms L) := withL_ri h (puts_ri ms) (sd_puts ms)
theorem wi_get {ms : List MD} {L : List Pp} (h : RiL L) (k : Bs) : getL (wiM ms L) k = appO (getL L k) (getM ms k) := by
  have hw := wi_ri (ms := ms) h
  have key : ∀ v, getL (wiM ms L) k = some v ↔ appO (getL L k) (getM ms k) = some v := by
    intro v
    rw [getL_iff hw]
    constructor
    · intro hm
      rcases withL_out hm with hm | ⟨hm, hs⟩
      · rw [(puts_get ms k v).1 (getL_at (puts_ri ms) hm)]
        rfl
      · have hn : getM ms k = none := by
          unfold sdM at hs
          cases g : getM ms k with
          | none => rfl
          | some o => rw [g] at hs; cases hs
        rw [hn]
        exact getL_at h hm
    · intro hg
      rcases g : getM ms k with _ | _ | u
      · rw [g] at hg
        exact withL_in (.inr ⟨getL_mem hg, by unfold sdM; rw [g]; rfl⟩)
      · rw [g] at hg
        cases hg
      · rw [g] at hg
        cases hg
        exact withL_in (.inl (getL_mem ((puts_get ms k v).2 g)))
  cases g : getL (wiM ms L) k with
  | none =>
    cases g2 : appO (getL L k) (getM ms k) with
    | none => rfl
    | some v => rw [(key v).2 g2] at g; cases g
  | some v => exact ((key v).1 g).symm
theorem wi_len {ms : List MD} {L : List Pp} : (wiM ms L).length ≤ ms.length + L.length := by
  have h1 := withL_len (sd := sdM ms) (L := L) (ps := putsM ms)
  have h2 := puts_len ms
  unfold wiM
  omega
/-! Within. -/
theorem inT_sub {r : T3} : ∀ {l : List Pp}, (inT r l).Sublist l
  | [] => List.Sublist.slnil
  | p :: l => by
    unfold inT
    split
    · exact List.nil_sublist _
    · split
      · exact inT_sub.cons_cons _
      · exact inT_sub.cons _
theorem in_sub {r : T3} {l : List Pp} : (inL r l).Sublist l := by
  unfold inL
  split
  · exact List.nil_sublist _
  · exact inT_sub
theorem in_ri {r : T3} {l : List Pp} (h : RiL l) : RiL (inL r l) := h.sublist in_sub
theorem abv_iff {r : T3} {k : Bs} : hasB r k = true ↔ abvR r k = false ∧ 0 ≤ cmp k r.1 := by
  rw [hasB_iff]
  unfold abvR
  have := cmp_anti k r.1
  cases r.2.2 <;> simp <;> omega
theorem inT_mem {r : T3} {p : Pp} : ∀ {l : List Pp}, RiL l → (p ∈ inT r l ↔ p ∈ l ∧ hasB r p.1 = true)
  | [], _ => by simp [inT]
  | q :: l, h => by
    obtain ⟨h1, h2⟩ := List.pairwise_cons.1 h
    unfold inT
    split
    · rename_i ha
      constructor
      · intro g; cases g
      · rintro ⟨g, hb⟩
        obtain ⟨b1, b2⟩ := abv_iff.1 hb
        have hq : r.2.2 = false ∧ 0 ≤ cmp q.1 r.2.1 := by unfold abvR at ha; simpa using ha
        rcases List.mem_cons.1 g with rfl | g
        · rw [ha] at b1; cases b1
        · have h3 := h1 p g
          have : abvR r p.1 = true := by
            unfold abvR
            simp only [hq.1, Bool.not_false, Bool.true_and, decide_eq_true_eq]
            have e1 := cmp_anti p.1 r.2.1
            have e2 := cmp_anti q.1 r.2.1
            by_cases g : cmp p.1 r.2.1 < 0
            · have := lt_tr h3 (show cmp p.1 r.2.1 ≤ 0 by omega)
              omega
            · omega
          rw [this] at b1; cases b1
    · rename_i ha
      have ih := inT_mem (r := r) (p := p) h2
      split
      · rename_i hc
        rw [List.mem_cons, List.mem_cons, ih]
        constructor
        · rintro (rfl | ⟨g, hb⟩)
          · exact ⟨.inl rfl, abv_iff.2 ⟨by simpa using ha, hc⟩⟩
          · exact ⟨.inr g, hb⟩
        · rintro ⟨rfl | g, hb⟩
          · exact .inl rfl
          · exact .inr ⟨g, hb⟩
      · rename_i hc
        rw [List.mem_cons, ih]
        constructor
        · rintro ⟨g, hb⟩
          exact ⟨.inr g, hb⟩
        · rintro ⟨rfl | g, hb⟩
          · exact absurd (abv_iff.1 hb).2 hc
          · exact ⟨g, hb⟩
theorem in_mem {r : T3} {p : Pp} {l : List Pp} (h : RiL l) : p ∈ inL r l ↔ p ∈ l ∧ hasB r p.1 = true := by
  unfold inL
  split
  · rename_i he
    constructor
    · intro g; cases g
    · rintro ⟨_, hb⟩
      exact absurd hb (has_em he)
  · exact inT_mem h
theorem app_get {l : List KV} {ms : List MD} {out : List KV} (h : IsApp l ms out) (key : Bs) : getE out key = appO (getE l key) (getM ms key) := by
  rcases g : getE out key with _ | v
  · rcases k : appO (getE l key) (getM ms key) with _ | v
    · rfl
    · obtain ⟨e, he, e1, _⟩ := (h.eq key v).2 k
      exact absurd e1 (getE_none.1 g e he)
  · exact ((h.eq key v).1 (getE_some g)).symm
/-- As Apply leaves them. -/
theorem wi_app {es out : List KV} {ms : List MD} {L : List Pp} (hr : RiL L) (hL : ∀ k, getL L k = getE es k) (h : IsApp es ms out) : wiM ms L = out.map KV.p := by
  have ho : RiL (out.map KV.p) := by
    unfold RiL
    rw [List.pairwise_map]
    exact h.up
  refine (wi_ri hr).uniq ho fun k => ?_
  rw [wi_get hr, hL, getL_map, app_get h]
end Go.Sx

