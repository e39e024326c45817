/- Part of a proof: branch.Check, by the program. -/
import Derived.Test.YtpnhoafmlhlfgaaCB1j
import Derived.ChangeBookTie2
namespace Go.Sx
open Go Go.Proofs
set_option maxRecDepth 10000
variable {w0 : World} {H : List Ck}
/-- Pages that may be children. -/
abbrev PgOk (ps : List Int) : Prop := ps.Nodup ∧ ∀ n ∈ ps, 2 ≤ n ∧ n < 65536
abbrev KyOk (size : Int) (ks : List Bs) : Prop := ∀ x ∈ ks, 1 ≤ x.length ∧ (x.length : Int) ≤ size / 16
def risK : List Bs → Bool
  | x :: y :: r => decide (cmp x y < 0) && risK (y :: r)
  | _ => true
theorem risK_iff : ∀ {ks : List Bs}, risK ks = true ↔ ∀ i x y, ks[i]? = some x → ks[i + 1]? = some y → cmp x y < 0
  | [] => by simp [risK]
  | [x] => by
    simp only [risK, true_iff]
    intro i a b h1 h2
    simp at h2
  | x :: y :: r => by
    simp only [risK, Bool.and_eq_true, decide_eq_true_eq, risK_iff (ks := y :: r)]
    constructor
    · rintro ⟨h1, h2⟩ i a b ha hb
      cases i with
      | zero => simp at ha hb; subst ha; subst hb; exact h1
      | succ i => exact h2 i a b (by simpa using ha) (by simpa using hb)
    · intro h
      exact ⟨h 0 x y rfl rfl, fun i a b ha hb => h (i + 1) a b (by simpa using ha) (by simpa using hb)⟩
def chkK (size : Int) (d : List Int × List Bs) : Int :=
  if sizedB size = false then 1
  else if ¬ (d.2.length + 1 = d.1.length ∧ 2 ≤ d.1.length ∧ PgOk d.1) then 61
  else if ¬ KyOk size d.2 then 62
  else if risK d.2 = false then 63
  else if size - 32 < (bytesK d : Int) then 64
  else 0
theorem chkK_1 {size : Int} {d : List Int × List Bs} (h : sizedB size = false) : chkK size d = 1 := by rw [chkK, if_pos h]
theorem chkK_61 {size : Int} {d : List Int × List Bs} (h : sizedB size = true) (h1 : ¬ (d.2.length + 1 = d.1.length ∧ 2 ≤ d.1.length ∧ PgOk d.1)) : chkK size d = 61 := by
  rw [chkK, if_neg (by simp [h]), if_pos h1]
theorem chkK_62 {size : Int} {d : List Int × List Bs} (h : sizedB size = true) (h1 : d.2.length + 1 = d.1.length ∧ 2 ≤ d.1.length ∧ PgOk d.1) (h2 : ¬ KyOk size d.2) : chkK size d = 62 := by
  rw [chkK, if_neg (by simp [h]), if_neg (by simpa using h1), if_pos h2]
theorem chkK_63 {size : Int} {d : List Int × List Bs} (h : sizedB size = true) (h1 : d.2.length + 1 = d.1.length ∧ 2 ≤ d.1.length ∧ PgOk d.1) (h2 : KyOk size d.2) (h3 : risK d.2 = false) : chkK size d = 63 := by
  rw [chkK, if_neg (by simp [h]), if_neg (by simpa using h1), if_neg (fun h => h h2), if_pos h3]
theorem chkK_e {size : Int} {d : List Int × List Bs} (h : sizedB size = true) (h1 : d.2.length + 1 = d.1.length ∧ 2 ≤ d.1.length ∧ PgOk d.1) (h2 : KyOk size d.2) (h3 : risK d.2 = true) : chkK size d = if size - 32 < (bytesK d : Int) then 64 else 0 := by
  rw [chkK, if_neg (by simp [h]), if_neg (by simpa using h1), if_neg (fun h => h h2), if_neg (by simp [h3])]
theorem chkK_0 {size : Int} {d : List Int × List Bs} (h : chkK size d = 0) : sizedB size = true ∧ (d.2.length + 1 = d.1.length ∧ 2 ≤ d.1.length ∧ PgOk d.1) ∧ KyOk size d.2 ∧ risK d.2 = true ∧ (bytesK d : Int) ≤ size - 32 := by
  unfold chkK at h
  split at h
  · cases h
  split at h
  · cases h
  split at h
  · cases h
  split at h
  · cases h
  split at h
  · cases h
  rename_i a b c d e
  exact ⟨by simpa using a, Decidable.not_not.1 b, Decidable.not_not.1 c, by simpa using d, by omega⟩
/-- Of how many bytes keys are that are good. -/
theorem ky_bd {size : Int} (hs : sizedB size = true) : ∀ {ks : List Bs}, KyOk size ks → keysB ks ≤ 258 * ks.length
  | [], _ => by simp [keysB]
  | x :: r, h => by
    have h1 := h x (by simp)
    have h2 := ky_bd hs (ks := r) (fun y hy => h y (by simp [hy]))
    have h3 := sizedB_bd hs
    simp only [keysB, List.map_cons, List.sum_cons, List.length_cons] at *
    omega
theorem pg_bd {ps : List Int} (h : PgOk ps) : ps.length ≤ 65536 := by
  have h1 : (ps.map Int.toNat).Nodup := List.pairwise_map.2 (h.1.imp_of_mem fun ha hb hne e => hne (by have := h.2 _ ha; have := h.2 _ hb; omega))
  have := nodup_lt_length 65536 _ h1 (fun x hx => by
    obtain ⟨n, hn, rfl⟩ := List.mem_map.1 hx
    have := h.2 n hn
    omega)
  rwa [List.length_map] at this
theorem nodup_snoc {ps : List Int} {i : Nat} {a : Int} (h : (ps.take i).Nodup) (ha : ps[i]? = some a) (hn : a ∉ ps.take i) : (ps.take (i + 1)).Nodup := by
  rw [snocT ha]
  exact List.nodup_append.2 ⟨h, by simp, fun x hx y hy => by rw [List.mem_singleton.1 hy]; exact fun e => hn (by rw [← e]; exact hx)⟩
theorem nodup_take {ps : List Int} (h : ps.Nodup) (i : Nat) : (ps.take i).Nodup := List.Pairwise.sublist (List.take_sublist _ _) h
/-- How often a page came. -/
def cntF (ps : List Int) (i : Nat) : Int → Value := fun n => .int .i64 (((ps.take i).count n : Nat) : Int)
theorem cntF_succ {ps : List Int} {i : Nat} {a : Int} (h : ps[i]? = some a) : (fun j => if j = a then Value.int .i64 ((((ps.take i).count a : Nat) : Int) + 1) else cntF ps i j) = cntF ps (i + 1) := by
  funext j
  by_cases e : j = a
  · subst e
    simp only [if_true, cntF, snocT h, List.count_append]
    exact ci (by simp)
  · simp only [if_neg e, cntF, snocT h, List.count_append]
    exact ci (by simp [Ne.symm e])
end Go.Sx
