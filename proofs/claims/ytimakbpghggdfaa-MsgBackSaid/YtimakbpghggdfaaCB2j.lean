/- Part of a proof: several parts of a walk, one behind the other. -/
import Derived.Test.YtimakbpghggdfaaCO1
import Derived.Test.YtimakbpghggdfaaCW0j
import Derived.ChangeBookTie2
namespace Go.Sx
open Go Go.Proofs
set_option maxRecDepth 10000

def sizedB (size : Int) : Bool := decide (size = 512) || decide (size = 1024) || decide (size = 2048) || decide (size = 4096)
theorem sizedB_bd {size : Int} (h : sizedB size = true) : 512 ≤ size ∧ size ≤ 4096 := by
  simp only [sizedB, Bool.or_eq_true, decide_eq_true_eq] at h
  omega
/-- Children: their pages, the keys between; where they lie. -/
structure Kd where
  pa : Option Addr
  pc : Nat
  ps : List Int
  ka : Option Addr
  kc : Nat
  ks : List SB
def Kd.cells (k : Kd) : List Value := [.slice k.pa k.ps.length k.pc, .slice k.ka k.ks.length k.kc]
abbrev Kd.keys (k : Kd) : List Bs := k.ks.map SB.xs
abbrev Kd.d (k : Kd) : List Int × List Bs := (k.ps, k.keys)
theorem Kd.kget {k : Kd} {i : Nat} {p : SB} (h : k.ks[i]? = some p) : k.keys[i]? = some p.xs := by simp [h]
instance : Cel Kd := ⟨2, Kd.cells, fun _ => rfl, fun _ => rfl, Nat.two_pos⟩
abbrev kd0 : Kd := ⟨none, 0, [], none, 0, []⟩
section
variable {w0 : World} {H : List Ck}
/-- They can be read. -/
structure RKd (w0 : World) (H : List Ck) (k : Kd) : Prop where
  ps : RSl w0 H k.pa k.pc k.ps
  ks : RSl w0 H k.ka k.kc k.ks
  el : ∀ p ∈ k.ks, RBy w0 H p.a p.c p.xs
theorem RKd.tl {k : Kd} {d : Ck} (h : RKd w0 H k) : RKd w0 (d :: H) k := ⟨h.ps.tl, h.ks.tl, fun p hp => (h.el p hp).tl⟩
theorem RKd.ent {k : Kd} {H' : List Ck} (h : RKd w0 H' k) (e : Ent H H') : RKd w0 H k := ⟨h.ps.ent e, h.ks.ent e, fun p hp => (h.el p hp).ent e⟩
theorem RKd.nil : RKd w0 H kd0 := ⟨RSl.nil, RSl.nil, fun _ h => by cases h⟩
/-- Children of one's own. -/
@[reducible] def oK (k : Kd) : Ck := .star [ol 3 k.pa k.pc k.ps, ol 24 k.ka k.kc k.ks, fam 5 k.ks]
theorem RKd.oK {k : Kd} : RKd w0 (oK k :: H) k :=
  ⟨RSl.ent RSl.hd (Ent.mem' (c := ol 3 k.pa k.pc k.ps) (by simp)), RSl.ent RSl.hd (Ent.mem' (c := ol 24 k.ka k.kc k.ks) (by simp)), fun _ hp => RBy.ent RBy.hd ((Ent.mem' (c := fam 5 k.ks) (by simp)).trans (fam_mem hp))⟩
theorem rkd {k : Kd} (h : RKd w0 H k := by (repeat (first | assumption | exact RKd.oK | exact RKd.nil | apply RKd.tl)); first | done | fail) : RKd w0 H k := h
theorem Kn.kp {k : Kd} (h : RKd w0 H k) : Kn w0 H (k.ps.length ≤ k.pc ∧ k.pc ≤ maxLen) := Kn.sl h.ps
theorem Kn.kk {k : Kd} (h : RKd w0 H k) : Kn w0 H (k.ks.length ≤ k.kc ∧ k.kc ≤ maxLen) := Kn.sl h.ks
end
/-! ### Plain -/
def keysB (ks : List Bs) : Nat := (ks.map fun x => 2 + x.length).sum
theorem keysB_snoc (ks : List Bs) (x : Bs) : keysB (ks ++ [x]) = keysB ks + (2 + x.length) := by simp [keysB]
theorem keysB_app (ks ls : List Bs) : keysB (ks ++ ls) = keysB ks + keysB ls := by simp [keysB]
theorem keysB_take (ks : List Bs) (i : Nat) : keysB (ks.take i) ≤ keysB ks := by
  conv => rhs; rw [← List.take_append_drop i ks, keysB_app]
  omega
theorem keysB_get {ks : List Bs} {i : Nat} {x : Bs} (h : ks[i]? = some x) : keysB (ks.take (i + 1)) = keysB (ks.take i) + (2 + x.length) := by
  rw [← keysB_snoc]; congr 1
  obtain ⟨hi, rfl⟩ := List.getElem?_eq_some_iff.1 h
  exact (List.take_append_getElem hi).symm
def bytesK (d : List Int × List Bs) : Nat := 2 + 4 * d.1.length + keysB d.2
/-- The first key that is above. -/
def chl (ks : List Bs) (key : Bs) : Nat := ks.findIdx fun x => decide (0 < cmp x key)
end Go.Sx
namespace Go.Sx
open Go Go.Proofs
set_option maxRecDepth 10000
variable {w0 : World} {H : List Ck}
theorem chl_ge {ks : List Bs} {key : Bs} {i : Nat} (h : ∀ j x, j < i → ks[j]? = some x → ¬ 0 < cmp x key) (hi : i ≤ ks.length) : i ≤ chl ks key := by
  unfold chl
  rcases Nat.lt_or_ge (ks.findIdx fun x => decide (0 < cmp x key)) i with h1 | h1
  · exfalso
    have h2 : (ks.findIdx fun x => decide (0 < cmp x key)) < ks.length := by omega
    have := List.findIdx_getElem (w := h2)
    exact h _ _ h1 (List.getElem?_eq_getElem h2) (of_decide_eq_true this)
  · exact h1
theorem chl_eq {ks : List Bs} {key : Bs} {i : Nat} {x : Bs} (h : ∀ j x, j < i → ks[j]? = some x → ¬ 0 < cmp x key) (hx : ks[i]? = some x) (hc : 0 < cmp x key) : chl ks key = i := by
  have h1 := chl_ge h (Nat.le_of_lt (get_lt' hx))
  refine Nat.le_antisymm ?_ h1
  unfold chl
  have hi := get_lt' hx
  have : ks[i] = x := by rw [List.getElem?_eq_getElem hi] at hx; exact Option.some.inj hx
  refine Nat.le_of_not_lt fun hlt => ?_
  have h2 := List.not_of_lt_findIdx hlt
  simp only [this, decide_eq_false_iff_not] at h2
  exact h2 hc
end Go.Sx
namespace Go.Sx
open Go Go.Proofs
set_option maxRecDepth 10000
variable {w0 : World} {H : List Ck}
/-- Pages that may be children. -/
abbrev PgOk (ps : List Int) : Prop := ps.Nodup ∧ ∀ n ∈ ps, 2 ≤ n ∧ n < 65536
abbrev KyOk (size : Int) (ks : List Bs) : Prop := ∀ x ∈ ks, 1 ≤ x.length ∧ (x.length : Int) ≤ size / 16
def risK : List Bs → Bool
  | x :: y :: r => decide (cmp x y < 0) && risK (y :: r)
  | _ => true
theorem risK_iff : ∀ {ks : List Bs}, risK ks = true ↔ ∀ i x y, ks[i]? = some x → ks[i + 1]? = some y → cmp x y < 0
  | [] => by simp [risK]
  | [x] => by
    simp only [risK, true_iff]
    intro i a b h1 h2
    simp at h2
  | x :: y :: r => by
    simp only [risK, Bool.and_eq_true, decide_eq_true_eq, risK_iff (ks := y :: r)]
    constructor
    · rintro ⟨h1, h2⟩ i a b ha hb
      cases i with
      | zero => simp at ha hb; subst ha; subst hb; exact h1
      | succ i => exact h2 i a b (by simpa using ha) (by simpa using hb)
    · intro h
      exact ⟨h 0 x y rfl rfl, fun i a b ha hb => h (i + 1) a b (by simpa using ha) (by simpa using hb)⟩
def chkK (size : Int) (d : List Int × List Bs) : Int :=
  if sizedB size = false then 1
  else if ¬ (d.2.length + 1 = d.1.length ∧ 2 ≤ d.1.length ∧ PgOk d.1) then 61
  else if ¬ KyOk size d.2 then 62
  else if risK d.2 = false then 63
  else if size - 32 < (bytesK d : Int) then 64
  else 0
theorem chkK_1 {size : Int} {d : List Int × List Bs} (h : sizedB size = false) : chkK size d = 1 := by rw [chkK, if_pos h]
theorem chkK_61 {size : Int} {d : List Int × List Bs} (h : sizedB size = true) (h1 : ¬ (d.2.length + 1 = d.1.length ∧ 2 ≤ d.1.length ∧ PgOk d.1)) : chkK size d = 61 := by
  rw [chkK, if_neg (by simp [h]), if_pos h1]
theorem chkK_62 {size : Int} {d : List Int × List Bs} (h : sizedB size = true) (h1 : d.2.length + 1 = d.1.length ∧ 2 ≤ d.1.length ∧ PgOk d.1) (h2 : ¬ KyOk size d.2) : chkK size d = 62 := by
  rw [chkK, if_neg (by simp [h]), if_neg (by simpa using h1), if_pos h2]
theorem chkK_63 {size : Int} {d : List Int × List Bs} (h : sizedB size = true) (h1 : d.2.length + 1 = d.1.length ∧ 2 ≤ d.1.length ∧ PgOk d.1) (h2 : KyOk size d.2) (h3 : risK d.2 = false) : chkK size d = 63 := by
  rw [chkK, if_neg (by simp [h]), if_neg (by simpa using h1), if_neg (fun h => h h2), if_pos h3]
theorem chkK_e {size : Int} {d : List Int × List Bs} (h : sizedB size = true) (h1 : d.2.length + 1 = d.1.length ∧ 2 ≤ d.1.length ∧ PgOk d.1) (h2 : KyOk size d.2) (h3 : risK d.2 = true) : chkK size d = if size - 32 < (bytesK d : Int) then 64 else 0 := by
  rw [chkK, if_neg (by simp [h]), if_neg (by simpa using h1), if_neg (fun h => h h2), if_neg (by simp [h3])]
theorem chkK_0 {size : Int} {d : List Int × List Bs} (h : chkK size d = 0) : sizedB size = true ∧ (d.2.length + 1 = d.1.length ∧ 2 ≤ d.1.length ∧ PgOk d.1) ∧ KyOk size d.2 ∧ risK d.2 = true ∧ (bytesK d : Int) ≤ size - 32 := by
  unfold chkK at h
  split at h
  · cases h
  split at h
  · cases h
  split at h
  · cases h
  split at h
  · cases h
  split at h
  · cases h
  rename_i a b c d e
  exact ⟨by simpa using a, Decidable.not_not.1 b, Decidable.not_not.1 c, by simpa using d, by omega⟩
/-- Of how many bytes keys are that are good. -/
theorem ky_bd {size : Int} (hs : sizedB size = true) : ∀ {ks : List Bs}, KyOk size ks → keysB ks ≤ 258 * ks.length
  | [], _ => by simp [keysB]
  | x :: r, h => by
    have h1 := h x (by simp)
    have h2 := ky_bd hs (ks := r) (fun y hy => h y (by simp [hy]))
    have h3 := sizedB_bd hs
    simp only [keysB, List.map_cons, List.sum_cons, List.length_cons] at *
    omega
theorem pg_bd {ps : List Int} (h : PgOk ps) : ps.length ≤ 65536 := by
  have h1 : (ps.map Int.toNat).Nodup := List.pairwise_map.2 (h.1.imp_of_mem fun ha hb hne e => hne (by have := h.2 _ ha; have := h.2 _ hb; omega))
  have := nodup_lt_length 65536 _ h1 (fun x hx => by
    obtain ⟨n, hn, rfl⟩ := List.mem_map.1 hx
    have := h.2 n hn
    omega)
  rwa [List.length_map] at this
theorem nodup_snoc {ps : List Int} {i : Nat} {a : Int} (h : (ps.take i).Nodup) (ha : ps[i]? = some a) (hn : a ∉ ps.take i) : (ps.take (i + 1)).Nodup := by
  rw [snocT ha]
  exact List.nodup_append.2 ⟨h, by simp, fun x hx y hy => by rw [List.mem_singleton.1 hy]; exact fun e => hn (by rw [← e]; exact hx)⟩
theorem nodup_take {ps : List Int} (h : ps.Nodup) (i : Nat) : (ps.take i).Nodup := List.Pairwise.sublist (List.take_sublist _ _) h
/-- How often a page came. -/
def cntF (ps : List Int) (i : Nat) : Int → Value := fun n => .int .i64 (((ps.take i).count n : Nat) : Int)
theorem cntF_succ {ps : List Int} {i : Nat} {a : Int} (h : ps[i]? = some a) : (fun j => if j = a then Value.int .i64 ((((ps.take i).count a : Nat) : Int) + 1) else cntF ps i j) = cntF ps (i + 1) := by
  funext j
  by_cases e : j = a
  · subst e
    simp only [if_true, cntF, snocT h, List.count_append]
    exact ci (by simp)
  · simp only [if_neg e, cntF, snocT h, List.count_append]
    exact ci (by simp [Ne.symm e])
end Go.Sx
