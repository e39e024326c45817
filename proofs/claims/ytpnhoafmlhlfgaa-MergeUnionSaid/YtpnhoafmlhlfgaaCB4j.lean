/- Part of a proof: several parts of a walk, one behind the other. -/
import Derived.Test.YtpnhoafmlhlfgaaCB1j
import Derived.ChangeBookTie2
namespace Go.Sx
open Go Go.Proofs
set_option maxRecDepth 10000
variable {w0 : World} {H : List Ck}
/-- Pages that may be children. -/
abbrev PgOk (ps : List Int) : Prop := ps.Nodup ∧ ∀ n ∈ ps, 2 ≤ n ∧ n < 65536
abbrev KyOk (size : Int) (ks : List Bs) : Prop := ∀ x ∈ ks, 1 ≤ x.length ∧ (x.length : Int) ≤ size / 16
def risK : List Bs → Bool
  | x :: y :: r => decide (cmp x y < 0) && risK (y :: r)
  | _ => true
theorem risK_iff : ∀ {ks : List Bs}, risK ks = true ↔ ∀ i x y, ks[i]? = some x → ks[i + 1]? = some y → cmp x y < 0
  | [] => by simp [risK]
  | [x] => by
    simp only [risK, true_iff]
    intro i a b h1 h2
    simp at h2
  | x :: y :: r => by
    simp only [risK, Bool.and_eq_true, decide_eq_true_eq, risK_iff (ks := y :: r)]
    constructor
    · rintro ⟨h1, h2⟩ i a b ha hb
      cases i with
      | zero => simp at ha hb; subst ha; subst hb; exact h1
      | succ i => exact h2 i a b (by simpa using ha) (by simpa using hb)
    · intro h
      exact ⟨h 0 x y rfl rfl, fun i a b ha hb => h (i + 1) a b (by simpa using ha) (by simpa using hb)⟩
def chkK (size : Int) (d : List Int × List Bs) : Int :=
  if sizedB size = false then 1
  else if ¬ (d.2.length + 1 = d.1.length ∧ 2 ≤ d.1.length ∧ PgOk d.1) then 61
  else if ¬ KyOk size d.2 then 62
  else if risK d.2 = false then 63
  else if size - 32 < (bytesK d : Int) then 64
  else 0
theorem chkK_1 {size : Int} {d : List Int × List Bs} (h : sizedB size = false) : chkK size d = 1 := by rw [chkK, if_pos h]
theorem chkK_61 {size : Int} {d : List Int × List Bs} (h : sizedB size = true) (h1 : ¬ (d.2.length + 1 = d.1.length ∧ 2 ≤ d.1.length ∧ PgOk d.1)) : chkK size d = 61 := by
  rw [chkK, if_neg (by simp [h]), if_pos h1]
theorem chkK_62 {size : Int} {d : List Int × List Bs} (h : sizedB size = true) (h1 : d.2.length + 1 = d.1.length ∧ 2 ≤ d.1.length ∧ PgOk d.1) (h2 : ¬ KyOk size d.2) : chkK size d = 62 := by
  rw [chkK, if_neg (by simp [h]), if_neg (by simpa using h1), if_pos h2]
theorem chkK_63 {size : Int} {d : List Int × List Bs} (h : sizedB size = true) (h1 : d.2.length + 1 = d.1.length ∧ 2 ≤ d.1.length ∧ PgOk d.1) (h2 : KyOk size d.2) (h3 : risK d.2 = false) : chkK size d = 63 := by
  rw [chkK, if_neg (by simp [h]), if_neg (by simpa using h1), if_neg (fun h => h h2), if_pos h3]
theorem chkK_e {size : Int} {d : List Int × List Bs} (h : sizedB size = true) (h1 : d.2.length + 1 = d.1.length ∧ 2 ≤ d.1.length ∧ PgOk d.1) (h2 : KyOk size d.2) (h3 : risK d.2 = true) : chkK size d = if size - 32 < (bytesK d : Int) then 64 else 0 := by
  rw [chkK, if_neg (by simp [h]), if_neg (by simpa using h1), if_neg (fun h => h h2), if_neg (by simp [h3])]
theorem chkK_0 {size : Int} {d : List Int × List Bs} (h : chkK size d = 0) : sizedB size = true ∧ (d.2.length + 1 = d.1.length ∧ 2 ≤ d.1.length ∧ PgOk d.1) ∧ KyOk size d.2 ∧ risK d.2 = true ∧ (bytesK d : Int) ≤ size - 32 := by
  unfold chkK at h
  split at h
  · cases h
  split at h
  · cases h
  split at h
  · cases h
  split at h
  · cases h
  split at h
  · cases h
  rename_i a b c d e
  exact ⟨by simpa using a, Decidable.not_not.1 b, Decidable.not_not.1 c, by simpa using d, by omega⟩
/-- Of how many bytes keys are that are good. -/
theorem ky_bd {size : Int} (hs : sizedB size = true) : ∀ {ks : List Bs}, KyOk size ks → keysB ks ≤ 258 * ks.length
  | [], _ => by simp [keysB]
  | x :: r, h => by
    have h1 := h x (by simp)
    have h2 := ky_bd hs (ks := r) (fun y hy => h y (by simp [hy]))
    have h3 := sizedB_bd hs
    simp only [keysB, List.map_cons, List.sum_cons, List.length_cons] at *
    omega
theorem pg_bd {ps : List Int} (h : PgOk ps) : ps.length ≤ 65536 := by
  have h1 : (ps.map Int.toNat).Nodup := List.pairwise_map.2 (h.1.imp_of_mem fun ha hb hne e => hne (by have := h.2 _ ha; have := h.2 _ hb; omega))
  have := nodup_lt_length 65536 _ h1 (fun x hx => by
    obtain ⟨n, hn, rfl⟩ := List.mem_map.1 hx
    have := h.2 n hn
    omega)
  rwa [List.length_map] at this
theorem nodup_snoc {ps : List Int} {i : Nat} {a : Int} (h : (ps.take i).Nodup) (ha : ps[i]? = some a) (hn : a ∉ ps.take i) : (ps.take (i + 1)).Nodup := by
  rw [snocT ha]
  exact List.nodup_append.2 ⟨h, by simp, fun x hx y hy => by rw [List.mem_singleton.1 hy]; exact fun e => hn (by rw [← e]; exact hx)⟩
theorem nodup_take {ps : List Int} (h : ps.Nodup) (i : Nat) : (ps.take i).Nodup := List.Pairwise.sublist (List.take_sublist _ _) h
/-- How often a page came. -/
def cntF (ps : List Int) (i : Nat) : Int → Value := fun n => .int .i64 (((ps.take i).count n : Nat) : Int)
theorem cntF_succ {ps : List Int} {i : Nat} {a : Int} (h : ps[i]? = some a) : (fun j => if j = a then Value.int .i64 ((((ps.take i).count a : Nat) : Int) + 1) else cntF ps i j) = cntF ps (i + 1) := by
  funext j
  by_cases e : j = a
  · subst e
    simp only [if_true, cntF, snocT h, List.count_append]
    exact ci (by simp)
  · simp only [if_neg e, cntF, snocT h, List.count_append]
    exact ci (by simp [Ne.symm e])
end Go.Sx
namespace Go.Sx
open Go Go.Proofs
set_option maxRecDepth 10000
variable {w0 : World} {H : List Ck}
/-- Numbers that rise, the same ones. -/
structure Srt (xs ys : List Int) : Prop where
  perm : ys.Perm xs
  rise : ys.Pairwise (· ≤ ·)
structure MgI where
  i : Nat
  j : Nat
  a : Option Addr
  c : Nat
  out : List Int
structure MgI.ok (m : MgI) (us vs : List Int) : Prop where
  hi : m.i ≤ us.length
  hj : m.j ≤ vs.length
  perm : m.out.Perm (us.take m.i ++ vs.take m.j)
  rise : m.out.Pairwise (· ≤ ·)
  la : ∀ x ∈ m.out, ∀ y ∈ us.drop m.i, x ≤ y
  lb : ∀ x ∈ m.out, ∀ y ∈ vs.drop m.j, x ≤ y
theorem dropC {α : Type} {l : List α} {i : Nat} {x : α} (h : l[i]? = some x) : l.drop i = x :: l.drop (i + 1) := by
  obtain ⟨hi, rfl⟩ := List.getElem?_eq_some_iff.1 h
  exact List.drop_eq_getElem_cons hi
theorem rise_drop {l : List Int} (h : l.Pairwise (· ≤ ·)) {i : Nat} {x : Int} (hx : l[i]? = some x) : ∀ y ∈ l.drop (i + 1), x ≤ y := by
  have := List.Pairwise.sublist (List.drop_sublist i l) h
  rw [dropC hx] at this
  exact (List.pairwise_cons.1 this).1
theorem MgI.left {m : MgI} {us vs : List Int} (h : m.ok us vs) (ha : us.Pairwise (· ≤ ·)) {x : Int} (hx : us[m.i]? = some x) (hle : ∀ y ∈ vs.drop m.j, x ≤ y) {a : Option Addr} {c : Nat} : MgI.ok ⟨m.i + 1, m.j, a, c, m.out ++ [x]⟩ us vs := by
  have hd := dropC hx
  refine ⟨get_lt' hx, h.hj, ?_, ?_, ?_, ?_⟩
  · simp only [snocT hx]
    refine (h.perm.append_right [x]).trans ?_
    rw [List.append_assoc, List.append_assoc]
    exact List.Perm.append_left _ List.perm_append_comm
  · refine List.pairwise_append.2 ⟨h.rise, by simp, fun y hy z hz => ?_⟩
    rw [List.mem_singleton.1 hz]
    exact h.la y hy x (by rw [hd]; simp)
  · intro y hy z hz
    rcases List.mem_append.1 hy with h1 | h1
    · exact h.la y h1 z (by rw [hd]; exact List.mem_cons_of_mem _ hz)
    · rw [List.mem_singleton.1 h1]; exact rise_drop ha hx z hz
  · intro y hy z hz
    rcases List.mem_append.1 hy with h1 | h1
    · exact h.lb y h1 z hz
    · rw [List.mem_singleton.1 h1]; exact hle z hz
theorem MgI.right {m : MgI} {us vs : List Int} (h : m.ok us vs) (hb : vs.Pairwise (· ≤ ·)) {x : Int} (hx : vs[m.j]? = some x) (hle : ∀ y ∈ us.drop m.i, x ≤ y) {a : Option Addr} {c : Nat} : MgI.ok ⟨m.i, m.j + 1, a, c, m.out ++ [x]⟩ us vs := by
  have hd := dropC hx
  refine ⟨h.hi, get_lt' hx, ?_, ?_, ?_, ?_⟩
  · simp only [snocT hx]
    rw [← List.append_assoc]
    exact h.perm.append_right [x]
  · refine List.pairwise_append.2 ⟨h.rise, by simp, fun y hy z hz => ?_⟩
    rw [List.mem_singleton.1 hz]
    exact h.lb y hy x (by rw [hd]; simp)
  · intro y hy z hz
    rcases List.mem_append.1 hy with h1 | h1
    · exact h.la y h1 z hz
    · rw [List.mem_singleton.1 h1]; exact hle z hz
  · intro y hy z hz
    rcases List.mem_append.1 hy with h1 | h1
    · exact h.lb y h1 z (by rw [hd]; exact List.mem_cons_of_mem _ hz)
    · rw [List.mem_singleton.1 h1]; exact rise_drop hb hx z hz
theorem drop_le {l : List Int} (h : l.Pairwise (· ≤ ·)) {i : Nat} {x y : Int} (hx : l[i]? = some x) (hy : y ≤ x) : ∀ z ∈ l.drop i, y ≤ z := by
  rw [dropC hx]
  intro z hz
  rcases List.mem_cons.1 hz with rfl | h1
  · exact hy
  · exact Int.le_trans hy (rise_drop h hx z h1)
end Go.Sx
namespace Go.Sx
open Go Go.Proofs
set_option maxRecDepth 10000
variable {w0 : World} {H : List Ck}
def two2 (n : Int) : Bs := [UInt8.ofInt (n / 256), UInt8.ofInt n]
def four4 (n : Int) : Bs := [UInt8.ofInt (n / 16777216), UInt8.ofInt (n / 65536), UInt8.ofInt (n / 256), UInt8.ofInt n]
def keyE (x : Bs) : Bs := two2 x.length ++ x
def encK (d : List Int × List Bs) : Bs := two2 d.1.length ++ d.1.flatMap four4 ++ d.2.flatMap keyE
def encR (size : Int) (d : List Int × List Bs) : Bs := if chkK size d = 0 then encK d else []
theorem flatS {α β : Type} (f : α → List β) {l : List α} {i : Nat} {x : α} (h : l[i]? = some x) : (l.take (i + 1)).flatMap f = (l.take i).flatMap f ++ f x := by
  rw [snocT h, List.flatMap_append]; simp
theorem fourL (ps : List Int) : (ps.flatMap four4).length = 4 * ps.length := by
  induction ps with
  | nil => rfl
  | cons x r ih => simp only [List.flatMap_cons, List.length_append, ih, List.length_cons, four4, List.length_nil]; omega
theorem keyL (ks : List Bs) : (ks.flatMap keyE).length = keysB ks := by
  induction ks with
  | nil => rfl
  | cons x r ih => simp only [List.flatMap_cons, List.length_append, ih, keyE, two2, List.length_cons, List.length_nil, keysB, List.map_cons, List.sum_cons]
theorem encK_len (d : List Int × List Bs) : (encK d).length = bytesK d := by
  simp only [encK, List.length_append, fourL, keyL, two2, List.length_cons, List.length_nil, bytesK]
abbrev EncR (size : Int) (d : List Int × List Bs) (H : List Ck) : Value → List Ck → Prop := fun v H' => ∃ a c, v = .tuple #[.slice a (encR size d).length c, .int .i64 (chkK size d)] ∧ H' = ob a c (encR size d) :: H
theorem ofInt_mod {n : Int} : UInt8.ofInt (n % 65536) = UInt8.ofInt n := by
  simp only [UInt8.ofInt]
  rw [Int.emod_emod_of_dvd n (by decide : (2 ^ 8 : Int) ∣ 65536)]
theorem ofInt_mod2 {n : Int} : UInt8.ofInt (n % 65536 / 256) = UInt8.ofInt (n / 256) := by
  have : (n % 65536 / 256) % 256 = (n / 256) % 256 := by omega
  simp only [UInt8.ofInt]
  have e : (2 ^ 8 : Int) = 256 := rfl
  rw [e, this]
theorem four_two {n : Int} (h : 0 ≤ n) : two2 (n / 65536) ++ two2 (n % 65536) = four4 n := by
  have : n / 65536 / 256 = n / 16777216 := by omega
  simp only [two2, four4, this, ofInt_mod, ofInt_mod2]
  rfl
end Go.Sx
