/- Part of a proof: several parts of a walk, one behind the other. -/
import Derived.Test.YtkcabddbeclokaaGreatCVF
import Derived.Test.YtkcabddbeclokaaGreatCKB
import Derived.Test.YtkcabddbeclokaaGreatCV3
namespace Go.Sx
open Go Go.Proofs
set_option maxRecDepth 10000
variable {w0 : World} {H : List Ck}
structure SIn where
  a : Option Addr
  c : Nat
  xs : List Int
@[reducible] def SIn.val (s : SIn) : Value := .slice s.a s.xs.length s.c
instance : Cel SIn := ⟨1, fun x => [x.val], fun _ => rfl, fun _ => rfl, Nat.one_pos⟩
instance : Row SIn Int := ⟨SIn.a, SIn.c, SIn.xs⟩
instance : ElT Tryz.prog 22 SIn := ⟨trivial⟩
structure SSB where
  a : Option Addr
  c : Nat
  xs : List SB
@[reducible] def SSB.val (s : SSB) : Value := .slice s.a s.xs.length s.c
instance : Cel SSB := ⟨1, fun x => [x.val], fun _ => rfl, fun _ => rfl, Nat.one_pos⟩
instance : Row SSB SB := ⟨SSB.a, SSB.c, SSB.xs⟩
instance : ElT Tryz.prog 23 SSB := ⟨trivial⟩
structure SMg where
  a : Option Addr
  c : Nat
  xs : List Mg
@[reducible] def SMg.val (s : SMg) : Value := .slice s.a s.xs.length s.c
instance : Cel SMg := ⟨1, fun x => [x.val], fun _ => rfl, fun _ => rfl, Nat.one_pos⟩
instance : Row SMg Mg := ⟨SMg.a, SMg.c, SMg.xs⟩
instance : ElT Tryz.prog 26 SMg := ⟨trivial⟩
/-- A book. -/
structure NB where
  k : Nat
  la : Option Addr
  lc : Nat
  ls : List SB
  wa : Option Addr
  wc : Nat
  ws : List SB
  ia : Option Addr
  ic : Nat
  is : List SIn
  ka : Option Addr
  kc : Nat
  ks : List SSB
  ma : Option Addr
  mc : Nat
  ms : List SMg
def NB.cells (B : NB) : List Value := [.slice B.la B.ls.length B.lc, .slice B.wa B.ws.length B.wc, .slice B.ia B.is.length B.ic, .slice B.ka B.ks.length B.kc, .slice B.ma B.ms.length B.mc]
abbrev NB.rest (B : NB) : List Ck := [ol 22 B.ia B.ic B.is, ol 23 B.ka B.kc B.ks, ol 26 B.ma B.mc B.ms, fam 3 B.is, fam 44 B.ks, fam 56 B.ms]
def NB.pieces (B : NB) : List Ck := [.hb B.k 36 B.cells, ol 44 B.la B.lc B.ls, ol 44 B.wa B.wc B.ws, fam 5 B.ls, fam 5 B.ws, .star B.rest]
abbrev NB.ck (B : NB) : Ck := .star B.pieces
theorem NB.open {B : NB} : Ent (B.ck :: H) (B.pieces ++ H) := Ent.open Ent.refl
theorem NB.shut {B : NB} : Ent (B.pieces ++ H) (B.ck :: H) := Ent.star Ent.refl
/-- What is true of a book. -/
structure NB.Ok (B : NB) (n : Nat) : Prop where
  same : B.ls.map SB.xs = B.ws.map SB.xs
  len : B.ls.length ≤ n
  leni : B.is.length ≤ n
  lenk : B.ks.length ≤ n
  lenm : B.ms.length ≤ n
  small : ∀ s ∈ B.ls, s.xs.length ≤ 4294967296
  smalli : ∀ s ∈ B.is, s.xs.length ≤ 4294967296
  smallk : ∀ s ∈ B.ks, s.xs.length ≤ 4294967296
  smallm : ∀ s ∈ B.ms, s.xs.length ≤ 4294967296
theorem NB.Ok.wlen {B : NB} {n : Nat} (h : B.Ok n) : B.ws.length = B.ls.length := by
  have := congrArg List.length h.same
  simpa using this.symm
theorem NB.Ok.mono {B : NB} {n m : Nat} (h : B.Ok n) (hm : n ≤ m) : B.Ok m := ⟨h.same, Nat.le_trans h.len hm, Nat.le_trans h.leni hm, Nat.le_trans h.lenk hm, Nat.le_trans h.lenm hm, h.small, h.smalli, h.smallk, h.smallm⟩
abbrev NBR (B : NB) (n : Nat) (H : List Ck) : Value → List Ck → Prop := fun _ H' => ∃ B' : NB, H' = B'.ck :: H ∧ B'.k = B.k ∧ B'.Ok n
set_option maxHeartbeats 1000000 in
theorem nkeep_s {B : NB} {n : Nat} {a : Option Addr} {c : Nat} {xs : Bs} (hB : B.Ok n) (hn : n ≤ 1099511627776) (hx : xs.length ≤ 4294967296) :
    FnS Tryz.prog w0 (ob a c xs :: B.ck :: H) 24 #[.pointer (some ⟨B.k, 0, none⟩), .slice a xs.length c] (NBR B (n + 1) H) := by
  have hl := hB.len
  have hw := hB.wlen
  refine fns_enter Tryz.func24 rfl rfl rfl ?_
  refine s_ent (.hb B.k 36 B.cells :: ol 44 B.la B.lc B.ls :: ol 44 B.wa B.wc B.ws :: fam 5 B.ls :: fam 5 B.ws :: .star B.rest :: ob a c xs :: H) ((Ent.perm (.swap _ _ _)).trans NB.open) ?_
  refine sx ?_
  refine s_bsl [(⟨a, c, xs⟩ : SB)] rfl rfl fun b9 => ?_
  refine s_app ?_
  intro la lc
  refine sx ?_
  refine s_drU (.hb B.k 36 [.slice la (B.ls ++ [(⟨a, c, xs⟩ : SB)]).length lc, .slice B.wa B.ws.length B.wc, .slice B.ia B.is.length B.ic, .slice B.ka B.ks.length B.kc, .slice B.ma B.ms.length B.mc] :: ob a c xs :: H) (.one true 0 (.one true 1 (.one true 2 (.one true 3 (.one true 4 (.one true 6 (.one false 5 (.one false 7 (.one false 8 (.one false 9 (.one true 10 (.one true 11 .nil)))))))))))) (.one false 12 .nil) [12] #[true, true, true, true, true, true, true, true, true, true, true, true, false] mixed (by kernel_rfl) ?_
  refine sx ?_
  refine s_bsl ([] : List UInt8) rfl rfl fun b10 => ?_
  refine sx ?_
  refine s_app ?_
  intro a' c'
  refine sx ?_
  refine s_bsl [(⟨a', c', xs⟩ : SB)] rfl rfl fun b11 => ?_
  refine s_app ?_
  intro wa wc
  refine sx ?_
  refine s_bar ?_
  refine sx ?_
  refine s_end0 rfl ⟨{ B with la := la, lc := lc, ls := B.ls ++ [⟨a, c, xs⟩], wa := wa, wc := wc, ws := B.ws ++ [⟨a', c', xs⟩] }, rfl, rfl, ?_⟩ ?_
  · refine ⟨by simp only [List.map_append, hB.same, List.map_cons, List.map_nil], by simp only [List.length_append, List.length_cons, List.length_nil]; omega, by have := hB.leni; show B.is.length ≤ n + 1; omega, by have := hB.lenk; show B.ks.length ≤ n + 1; omega, by have := hB.lenm; show B.ms.length ≤ n + 1; omega, fun s hs => ?_, hB.smalli, hB.smallk, hB.smallm⟩
    simp only [List.mem_append, List.mem_singleton] at hs
    rcases hs with hs | rfl
    · exact hB.small s hs
    · exact hx
  · refine Ent.trans ?_ NB.shut
    refine Ent.cons (by exact rm) ?_
    refine Ent.cons (by exact rm) ?_
    refine Ent.cons (by exact rm) ?_
    refine Ent.famS (by exact rm) (by exact rm) ?_
    refine Ent.famS (by exact rm) (by exact rm) ?_
    exact ent
end Go.Sx
namespace Go.Sx
open Go Go.Proofs
set_option maxRecDepth 10000
variable {w0 : World} {H : List Ck}
def markL (i : Nat) : UInt8 := UInt8.ofNat (1 + i % 251)
theorem mark_s {i : Nat} (hi : i ≤ 9223372036854775807) : FnV Tryz.prog w0 H 26 #[.int .i64 i] (bv (markL i)) := by
  refine fns_enter Tryz.func26 rfl rfl rfl ?_
  refine sx ?_
  refine s_ret1 rfl rfl ⟨?_, rfl⟩
  rw [show (1 + (i : Int) % 251) = ((1 + i % 251 : Nat) : Int) by omega, ofInt_nat]
  rfl
theorem full_s {xs : Bs} {a : Option Addr} {c : Nat} {m : UInt8} (ha : RBy w0 H a c xs) (hm : ∀ x ∈ xs, x = m) : FnV Tryz.prog w0 H 27 #[.slice a xs.length c, bv m] (.bool true) := by
  refine fns_enter Tryz.func27 rfl rfl rfl ?_
  refine s_kn (Kn.by ha) fun l1 => ?_
  simp only [maxLen] at l1
  refine sx ?_
  refine s_loop (fun i : Nat => [(0, .slice a xs.length c), (1, bv m), (5, .int .i64 i)]) (fun _ => H) (fun i => i ≤ xs.length) (fun i => xs.length - i) 0 (Nat.zero_le _) ?_
  intro i hi
  refine sx ?_
  refine s_if rfl (fun t1 => ?_) (fun t1 => ?_)
  · obtain ⟨x, hx⟩ := get_lt xs i (by omega)
    have hxe : xs.getD i 0 = m := by rw [List.getD_eq_getElem?_getD, hx]; exact hm x (List.mem_of_getElem? hx)
    refine sx ?_
    refine s_ifn rfl (fun t2 => absurd hxe t2) (fun t2 => ?_)
    refine sx ?_
    exact s_again (i + 1) (by omega) (by omega)
  · refine sx ?_
    exact s_ret1 rfl rfl ⟨rfl, rfl⟩
theorem take_snoc' {α : Type} {l : List α} {i : Nat} {e : α} (h : l[i]? = some e) : l.take (i + 1) = l.take i ++ [e] := snocT h
theorem drop_get {α : Type} {l : List α} {i : Nat} {x : α} (h : l[i]? = some x) : l.drop i = x :: l.drop (i + 1) := dropC h
section
variable {α β : Type} [Cel α] [Row β α] {E : TypeId} {F G : List β} {s : β} {R1 R2 R3 H' : List Ck}
theorem Ent.famK (h1 : Rm (Row.ck E s) H R1) (h2 : Rm (fam E F) R1 R2) (h : Ent R2 H') : Ent H (fam E (s :: F) :: H') :=
  ((Ent.perm h1.out).trans (Ent.head ((Ent.perm h2.out).trans (Ent.head h)))).trans fam_cons'
theorem Ent.famKA (h1 : Rm (Row.ck E s) H R1) (h2 : Rm (fam E F) R1 R2) (h3 : Rm (fam E G) R2 R3) (h : Ent R3 H') : Ent H (fam E ((s :: F) ++ G) :: H') :=
  (((Ent.perm h1.out).trans (Ent.head ((Ent.perm h2.out).trans (Ent.head ((Ent.perm h3.out).trans (Ent.head h)))))).trans fam_cons').trans fam_app
end
theorem putG {α : Type} {p : α → Prop} {xs : List α} {i : Nat} {e : α} (h : ∀ y ∈ xs, p y) (he : p e) : ∀ y ∈ putL xs i [e], p y := fun y hy => by
  rcases putL_mem hy with h1 | h1
  · exact h y h1
  · rw [List.mem_singleton.1 h1]; exact he
theorem tkG {α : Type} {p : α → Prop} {xs : List α} {i : Nat} {e : α} (h : ∀ y ∈ xs, p y) (he : p e) : ∀ y ∈ xs.take i ++ [e], p y := fun y hy => by
  rcases List.mem_append.1 hy with h1 | h1
  · exact h y (List.mem_of_mem_take h1)
  · rw [List.mem_singleton.1 h1]; exact he
/-- What a list is when all has one mark. -/
def mk1 (i : Nat) (s : SB) : SB := ⟨s.a, s.c, List.replicate s.xs.length (markL i)⟩
def mks (ls : List SB) : List SB := ls.mapIdx mk1
theorem mks_len (ls : List SB) : (mks ls).length = ls.length := by simp [mks]
theorem mks_get {ls : List SB} {i : Nat} {s : SB} (h : ls[i]? = some s) : (mks ls)[i]? = some (mk1 i s) := by simp [mks, h]
theorem rep_all {α : Type} {m : α} {n : Nat} {xs : List α} (hn : xs.length = n) (h : ∀ j, j < n → xs[j]? = some m) : xs = List.replicate n m := by
  apply List.ext_getElem?
  intro j
  by_cases hj : j < n
  · rw [h j hj, List.getElem?_replicate, if_pos hj]
  · rw [List.getElem?_eq_none (by omega), List.getElem?_eq_none (by simp; omega)]
theorem fullV {D : List SB} {a : Option Addr} {c n : Nat} {m : UInt8} (h : Vw (· = m) D a c n) (e : Ent H (fam 5 D :: [])) : FnV Tryz.prog w0 H 27 #[.slice a n c, bv m] (.bool true) := by
  obtain ⟨ys, h1, h2, h3⟩ := h.by (E := 5)
  have hf := full_s (w0 := w0) (H := H) (RBy.ent (h3 w0 []) e) (m := m) h2
  rw [h1] at hf
  exact hf
theorem putM {m : UInt8} {xs : Bs} {p : Nat} (h : ∀ y ∈ xs, y = m) : ∀ y ∈ putL xs p [m], y = m := putG h rfl
theorem tkM {m : UInt8} {xs : Bs} {p : Nat} (h : ∀ y ∈ xs, y = m) : ∀ y ∈ xs.take p ++ [m], y = m := tkG h rfl
end Go.Sx
