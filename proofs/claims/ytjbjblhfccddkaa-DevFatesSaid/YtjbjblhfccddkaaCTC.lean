/- Part of a proof: what a block shows; Read and Write of the device. -/
import Derived.Test.YtjbjblhfccddkaaCTB
namespace Go.Sx
open Go Go.Proofs
set_option maxRecDepth 10000
variable {w0 : World} {H : List Ck}
/-- A block's pieces are taken out. -/
theorem Cd.out {c : Cd} {lk : Int} {i : Nat} {e : Be} (hi : c.es[i]? = some e) : Ent (c.on lk H)
    (.hb e.k 82 e.b.cells :: ol 29 e.b.wa e.b.wc e.b.ws :: ob e.b.l.a e.b.l.c e.b.l.xs :: stars oSB e.b.ws :: .hb c.b 74 (c.cells lk) :: kmp c.m c.kvs :: stars oBk (c.es.eraseIdx i) :: H) := by
  have h1 : Ent (c.on lk H) (.hb c.b 74 (c.cells lk) :: kmp c.m c.kvs :: (oBk e ++ stars oBk (c.es.eraseIdx i) :: H)) := Ent.head (Ent.head (stars_get hi))
  refine h1.trans (Ent.perm ?_)
  show List.Perm (.hb c.b 74 (c.cells lk) :: kmp c.m c.kvs :: (oBk e ++ _)) (oBk e ++ .hb c.b 74 (c.cells lk) :: kmp c.m c.kvs :: _)
  exact ((List.perm_middle (l₁ := oBk e)).trans ((List.perm_middle (l₁ := oBk e)).cons _)).symm
/-- They are put back, turned. -/
theorem Cd.put {c : Cd} {lk : Int} {i : Nat} {e : Be} {b : Bk} (hi : c.es[i]? = some e) :
    Ent (.hb e.k 82 b.cells :: ol 29 b.wa b.wc b.ws :: ob b.l.a b.l.c b.l.xs :: stars oSB b.ws :: .hb c.b 74 (c.cells lk) :: kmp c.m c.kvs :: stars oBk (c.es.eraseIdx i) :: H)
      (({ c with es := c.es.set i { e with b := b } } : Cd).on lk H) := by
  have hk := kvs_set (e' := { e with b := b }) hi rfl rfl
  show Ent (oBk { e with b := b } ++ .hb c.b 74 (c.cells lk) :: kmp c.m c.kvs :: _) (.hb c.b 74 (c.cells lk) :: kmp c.m ((c.es.set i { e with b := b }).map Be.kv) :: stars oBk (c.es.set i { e with b := b }) :: H)
  rw [hk]
  refine (Ent.perm ((List.perm_middle (l₁ := oBk { e with b := b })).trans ((List.perm_middle (l₁ := oBk { e with b := b })).cons _))).trans ?_
  exact Ent.head (Ent.head (stars_put (List.getElem?_eq_some_iff.1 hi).1))
theorem set_same {α : Type} {F : List α} {i : Nat} {e : α} (h : F[i]? = some e) : F.set i e = F := by
  apply List.ext_getElem?
  intro j
  rw [List.getElem?_set]
  split
  · rename_i hj
    subst hj
    rw [if_pos (List.getElem?_eq_some_iff.1 h).1, h]
  · rfl
theorem Cd.back {c : Cd} {lk : Int} {i : Nat} {e : Be} (hi : c.es[i]? = some e) : Ent
    (.hb e.k 82 e.b.cells :: ol 29 e.b.wa e.b.wc e.b.ws :: ob e.b.l.a e.b.l.c e.b.l.xs :: stars oSB e.b.ws :: .hb c.b 74 (c.cells lk) :: kmp c.m c.kvs :: stars oBk (c.es.eraseIdx i) :: H) (c.on lk H) := by
  have h := Cd.put (H := H) (lk := lk) (b := e.b) hi
  rwa [show c.es.set i { e with b := e.b } = c.es from set_same hi] at h
theorem Ad.set_same {A : Ad} {n : Int} {b : Ab} (h : A.at_ n = b) : A.set n b = A := by
  simp only [Ad.set]
  congr 1
  funext m
  by_cases e : m = n
  · subst e; rw [if_pos rfl, h]
  · rw [if_neg e]
theorem Ad.rerr_of {A : Ad} {n : Int} {b : Bk} {size : Nat} (h0 : A.err n = 0) (h : A.at_ n = b.ab size) : A.rerr n = if b.ws = [] ∧ b.bad = true then 14 else 0 := by
  simp only [Ad.rerr, h0, ne_eq, not_true, if_false, h, Bk.ab, List.map_eq_nil_iff]
/-- These bytes it shows. -/
def Sh (b : Bk) (s : SB) : Prop := b.ws.getLast? = some s ∨ (b.ws = [] ∧ b.bad = false ∧ b.l = s ∧ s.a ≠ none)
theorem Sh.ab {b : Bk} {s : SB} {size : Nat} (h : Sh b s) : (b.ab size).shows = s.xs := by
  rcases h with h | ⟨h1, h2, rfl, h4⟩
  · simp [Bk.ab, Ab.shows, h]
  · simp only [Bk.ab, Ab.shows, h1, List.map_nil, List.getLast?_nil]
    cases h5 : b.l.a with
    | none => exact absurd h5 h4
    | some ad => rfl
theorem Sh.len {b : Bk} {s : SB} {size N : Nat} (h : Sh b s) (hb : b.Ok size N) : s.xs.length = size := by
  rcases h with h | ⟨h1, h2, rfl, h4⟩
  · exact hb.wlen s (List.mem_of_getLast? h)
  · exact hb.len h4
abbrev ShwR (c : Cd) (N : Nat) (lk n : Int) (H : List Ck) : Value → List Ck → Prop := fun v K =>
  (c.ad.rerr n ≠ 0 ∧ ∃ es : List Be, ({ c with es := es } : Cd).Ok N ∧ ({ c with es := es } : Cd).ad = c.ad ∧ v = .tuple #[.slice none 0 0, .int .i64 (c.ad.rerr n)] ∧ K = ({ c with es := es } : Cd).on lk H) ∨
  (c.ad.rerr n = 0 ∧ ∃ (es : List Be) (i : Nat) (e : Be) (s : SB), es[i]? = some e ∧ e.n = n ∧ Sh e.b s ∧ ({ c with es := es } : Cd).Ok N ∧ ({ c with es := es } : Cd).ad = c.ad ∧ v = .tuple #[s.val, .int .i64 0] ∧ K = ({ c with es := es } : Cd).on lk H)
set_option maxHeartbeats 1000000 in
theorem shows_s {c : Cd} {N : Nat} {lk n : Int} (hc : c.Ok N) (hn : I64 n) (hN : N ≤ 1099511627776) : FnS Try.prog w0 (c.on lk H) 35 #[.pointer (some ⟨c.b, 0, none⟩), .int .i64 n] (ShwR c N lk n H) := by
  have hsz := hc.sz
  refine fns_enter Try.func35 rfl rfl rfl ?_
  refine sx ?_
  refine s_call rfl (find_s hc hn) ?_
  rintro _ _ (⟨e0, rfl, rfl⟩ | ⟨e0, es, i, e, hi, hen, hok, had, rfl, rfl⟩)
  · refine ⟨chk_seq, ?_⟩
    have e1 : c.ad.rerr n = c.ad.err n := by simp only [Ad.rerr, if_pos e0]
    refine sx ?_
    refine s_ifn rfl (fun _ => ?_) (fun h => absurd h e0)
    refine sx ?_
    exact s_ret2 rfl rfl rfl (.inl ⟨by rw [e1]; exact e0, c.es, hc, rfl, by rw [e1], rfl⟩)
  refine ⟨chk_seq, ?_⟩
  have hat : c.ad.at_ n = e.b.ab c.size := by
    have h1 : ({ c with es := es } : Cd).ad.at_ n = e.b.ab c.size := by rw [← hen]; exact atE_of hok.nodup hi
    rw [had] at h1; exact h1
  have hb := hok.bk e (List.mem_of_getElem? hi)
  have l1 := hb.few
  refine s_entL _ (Cd.out hi) ?_
  refine sx ?_
  refine s_if rfl (fun h1 => ?_) (fun h1 => ?_)
  · obtain ⟨s, hs⟩ : ∃ s, e.b.ws[e.b.ws.length - 1]? = some s := ⟨_, List.getElem?_eq_getElem (by omega)⟩
    have hsh : Sh e.b s := .inl (by rw [List.getLast?_eq_getElem?]; exact hs)
    refine s_kn (RSl.some (xs := e.b.ws) (RSl.tl RSl.hd) (by omega)) ?_
    rintro ⟨ad, hwa⟩
    have hRs : RSl w0 (.hb e.k 82 e.b.cells :: ol 29 e.b.wa e.b.wc e.b.ws :: ob e.b.l.a e.b.l.c e.b.l.xs :: stars oSB e.b.ws :: .hb c.b 74 (({ c with es := es } : Cd).cells lk) :: kmp c.m ({ c with es := es } : Cd).kvs :: stars oBk (es.eraseIdx i) :: H) e.b.wa e.b.wc e.b.ws := RSl.tl RSl.hd
    refine s_seq ?_
    refine sx ?_; refine s_dr (.one true 0 (.one true 1 (.one true 2 (.one true 3 (.one true 4 (.one true 5 (.one true 6 (.one true 7 (.one true 8 (.one true 9 (.one true 10 (.one true 11 (.one true 12 (.one true 13 .nil)))))))))))))) mixed (by kernel_rfl) ?_; refine sx ?_
    refine sx ?_
    have e1 : c.ad.rerr n = 0 := by rw [Ad.rerr_of e0 hat, if_neg]; rintro ⟨h, _⟩; rw [h] at h1; simp at h1
    exact s_ret2 rfl rfl rfl (.inr ⟨e1, es, i, e, s, hi, hen, hsh, hok, had, rfl, rfl⟩) (Cd.back hi)
  have hw : e.b.ws = [] := List.eq_nil_of_length_eq_zero (by omega)
  refine sx ?_
  refine s_cond rfl (fun t1 => ?_) (fun t1 => ?_)
  · refine sx ?_
    have e1 : c.ad.rerr n = 14 := by rw [Ad.rerr_of e0 hat, if_pos ⟨hw, t1⟩]
    exact s_ret2 rfl rfl rfl (.inl ⟨by rw [e1]; decide, es, hok, had, by rw [e1], rfl⟩) (Cd.back hi)
  have e1 : c.ad.rerr n = 0 := by rw [Ad.rerr_of e0 hat, if_neg]; rintro ⟨_, h⟩; rw [t1] at h; cases h
  refine sx ?_
  refine s_cond rfl (fun t2 => ?_) (fun t2 => ?_)
  · refine sx ?_
    refine s_make (α := UInt8) (c := c.size) (x0 := 0) rfl rfl ⟨by omega, by omega⟩ ?_
    intro a
    refine s_rw (t := 53) (v' := .slice (some a) (zeros c.size).length c.size) rfl (by simp [zeros]) ?_
    refine sx ?_
    have hnb : (⟨⟨some a, c.size, zeros c.size⟩, e.b.bad, e.b.wa, e.b.wc, e.b.ws⟩ : Bk).Ok c.size N := ⟨hb.few, fun h => (by cases h), fun _ => (by simp [zeros]), hb.wlen⟩
    obtain ⟨o1, o2, o3⟩ := hok.upd hi hnb
    have hab : (⟨⟨some a, c.size, zeros c.size⟩, e.b.bad, e.b.wa, e.b.wc, e.b.ws⟩ : Bk).ab c.size = e.b.ab c.size := by
      simp only [Bk.ab, Option.isNone_some, Bool.false_eq_true, if_false]
      rw [if_pos t2]
    rw [hab] at o2
    have o2' := o2.trans (Ad.set_same (by rw [had, hen]; exact hat))
    refine s_ret2 rfl rfl rfl (.inr ⟨e1, es.set i { e with b := ⟨⟨some a, c.size, zeros c.size⟩, e.b.bad, e.b.wa, e.b.wc, e.b.ws⟩ }, i, { e with b := ⟨⟨some a, c.size, zeros c.size⟩, e.b.bad, e.b.wa, e.b.wc, e.b.ws⟩ }, ⟨some a, c.size, zeros c.size⟩, List.getElem?_set_self (List.getElem?_eq_some_iff.1 hi).1, hen, .inr ⟨hw, t1, rfl, by simp⟩, o1, o2'.trans had, rfl, rfl⟩) ?_
    refine Ent.trans ?_ (Cd.put (c := { c with es := es }) (b := ⟨⟨some a, c.size, zeros c.size⟩, e.b.bad, e.b.wa, e.b.wc, e.b.ws⟩) hi)
    exact ent
  refine sx ?_
  refine s_ret2 rfl rfl rfl (.inr ⟨e1, es, i, e, e.b.l, hi, hen, .inr ⟨hw, t1, rfl, fun h => by rw [h] at t2; cases t2⟩, hok, had, rfl, rfl⟩) (Cd.back hi)
