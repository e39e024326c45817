/- The book's end: marks; lists that share a block. -/
import Derived.Test.YtkcabddbeclokaaCW3
import Derived.Test.YtkcabddbeclokaaCKB
import Derived.Test.YtkcabddbeclokaaCV3
namespace Go.Sx
open Go Go.Proofs
set_option maxRecDepth 10000
variable {w0 : World} {H : List Ck}
def markL (i : Nat) : UInt8 := UInt8.ofNat (1 + i % 251)
theorem mark_s {i : Nat} (hi : i ≤ 9223372036854775807) : FnV Try.prog w0 H 48 #[.int .i64 i] (bv (markL i)) := by
  refine fns_enter Try.func48 rfl rfl rfl ?_
  refine sx ?_
  refine s_ret1 rfl rfl ⟨?_, rfl⟩
  rw [show (1 + (i : Int) % 251) = ((1 + i % 251 : Nat) : Int) by omega, ofInt_nat]
  rfl
theorem full_s {xs : Bs} {a : Option Addr} {c : Nat} {m : UInt8} (ha : RBy w0 H a c xs) (hm : ∀ x ∈ xs, x = m) : FnV Try.prog w0 H 49 #[.slice a xs.length c, bv m] (.bool true) := by
  refine fns_enter Try.func49 rfl rfl rfl ?_
  refine s_kn (Kn.by ha) fun l1 => ?_
  simp only [maxLen] at l1
  refine sx ?_
  refine s_loop (fun i : Nat => [(0, .slice a xs.length c), (1, bv m), (5, .int .i64 i)]) (fun _ => H) (fun i => i ≤ xs.length) (fun i => xs.length - i) 0 (Nat.zero_le _) ?_
  intro i hi
  refine sx ?_
  refine s_if rfl (fun t1 => ?_) (fun t1 => ?_)
  · obtain ⟨x, hx⟩ := get_lt xs i (by omega)
    have hxe : xs.getD i 0 = m := by rw [List.getD_eq_getElem?_getD, hx]; exact hm x (List.mem_of_getElem? hx)
    refine sx ?_
    refine s_ifn rfl (fun t2 => absurd hxe t2) (fun t2 => ?_)
    refine sx ?_
    exact s_again (i + 1) (by omega) (by omega)
  · refine sx ?_
    exact s_ret1 rfl rfl ⟨rfl, rfl⟩
theorem take_snoc' {α : Type} {l : List α} {i : Nat} {e : α} (h : l[i]? = some e) : l.take (i + 1) = l.take i ++ [e] := snocT h
theorem drop_get {α : Type} {l : List α} {i : Nat} {x : α} (h : l[i]? = some x) : l.drop i = x :: l.drop (i + 1) := dropC h
section
variable {α β : Type} [Cel α] [Row β α] {E : TypeId} {F G : List β} {s : β} {R1 R2 R3 H' : List Ck}
theorem Ent.famK (h1 : Rm (Row.ck E s) H R1) (h2 : Rm (fam E F) R1 R2) (h : Ent R2 H') : Ent H (fam E (s :: F) :: H') :=
  ((Ent.perm h1.out).trans (Ent.head ((Ent.perm h2.out).trans (Ent.head h)))).trans fam_cons'
theorem Ent.famKA (h1 : Rm (Row.ck E s) H R1) (h2 : Rm (fam E F) R1 R2) (h3 : Rm (fam E G) R2 R3) (h : Ent R3 H') : Ent H (fam E ((s :: F) ++ G) :: H') :=
  (((Ent.perm h1.out).trans (Ent.head ((Ent.perm h2.out).trans (Ent.head ((Ent.perm h3.out).trans (Ent.head h)))))).trans fam_cons').trans fam_app
end
theorem putG {α : Type} {p : α → Prop} {xs : List α} {i : Nat} {e : α} (h : ∀ y ∈ xs, p y) (he : p e) : ∀ y ∈ putL xs i [e], p y := fun y hy => by
  rcases putL_mem hy with h1 | h1
  · exact h y h1
  · rw [List.mem_singleton.1 h1]; exact he
theorem tkG {α : Type} {p : α → Prop} {xs : List α} {i : Nat} {e : α} (h : ∀ y ∈ xs, p y) (he : p e) : ∀ y ∈ xs.take i ++ [e], p y := fun y hy => by
  rcases List.mem_append.1 hy with h1 | h1
  · exact h y (List.mem_of_mem_take h1)
  · rw [List.mem_singleton.1 h1]; exact he
/-- What a list is when all has one mark. -/
def mk1 (i : Nat) (s : SB) : SB := ⟨s.a, s.c, List.replicate s.xs.length (markL i)⟩
def mks (ls : List SB) : List SB := ls.mapIdx mk1
theorem mks_len (ls : List SB) : (mks ls).length = ls.length := by simp [mks]
theorem mks_get {ls : List SB} {i : Nat} {s : SB} (h : ls[i]? = some s) : (mks ls)[i]? = some (mk1 i s) := by simp [mks, h]
theorem rep_all {α : Type} {m : α} {n : Nat} {xs : List α} (hn : xs.length = n) (h : ∀ j, j < n → xs[j]? = some m) : xs = List.replicate n m := by
  apply List.ext_getElem?
  intro j
  by_cases hj : j < n
  · rw [h j hj, List.getElem?_replicate, if_pos hj]
  · rw [List.getElem?_eq_none (by omega), List.getElem?_eq_none (by simp; omega)]
theorem fullV {D : List SB} {a : Option Addr} {c n : Nat} {m : UInt8} (h : Vw (· = m) D a c n) (e : Ent H (fam 5 D :: [])) : FnV Try.prog w0 H 49 #[.slice a n c, bv m] (.bool true) := by
  obtain ⟨ys, h1, h2, h3⟩ := h.by (E := 5)
  have hf := full_s (w0 := w0) (H := H) (RBy.ent (h3 w0 []) e) (m := m) h2
  rw [h1] at hf
  exact hf
theorem putM {m : UInt8} {xs : Bs} {p : Nat} (h : ∀ y ∈ xs, y = m) : ∀ y ∈ putL xs p [m], y = m := putG h rfl
theorem tkM {m : UInt8} {xs : Bs} {p : Nat} (h : ∀ y ∈ xs, y = m) : ∀ y ∈ xs.take p ++ [m], y = m := tkG h rfl
end Go.Sx
