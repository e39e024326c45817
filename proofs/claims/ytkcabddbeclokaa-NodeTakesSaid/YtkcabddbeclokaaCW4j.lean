/- Part of a proof: several parts of a walk, one behind the other. -/
import Derived.Test.YtkcabddbeclokaaCVF
import Derived.Test.YtkcabddbeclokaaCKB
import Derived.Test.YtkcabddbeclokaaCV3
namespace Go.Sx
open Go Go.Proofs
set_option maxRecDepth 10000
variable {w0 : World} {H : List Ck}
structure SIn where
  a : Option Addr
  c : Nat
  xs : List Int
@[reducible] def SIn.val (s : SIn) : Value := .slice s.a s.xs.length s.c
instance : Cel SIn := ⟨1, fun x => [x.val], fun _ => rfl, fun _ => rfl, Nat.one_pos⟩
instance : Row SIn Int := ⟨SIn.a, SIn.c, SIn.xs⟩
instance : ElT Try.prog 34 SIn := ⟨trivial⟩
structure SSB where
  a : Option Addr
  c : Nat
  xs : List SB
@[reducible] def SSB.val (s : SSB) : Value := .slice s.a s.xs.length s.c
instance : Cel SSB := ⟨1, fun x => [x.val], fun _ => rfl, fun _ => rfl, Nat.one_pos⟩
instance : Row SSB SB := ⟨SSB.a, SSB.c, SSB.xs⟩
instance : ElT Try.prog 27 SSB := ⟨trivial⟩
structure SMg where
  a : Option Addr
  c : Nat
  xs : List Mg
@[reducible] def SMg.val (s : SMg) : Value := .slice s.a s.xs.length s.c
instance : Cel SMg := ⟨1, fun x => [x.val], fun _ => rfl, fun _ => rfl, Nat.one_pos⟩
instance : Row SMg Mg := ⟨SMg.a, SMg.c, SMg.xs⟩
instance : ElT Try.prog 37 SMg := ⟨trivial⟩
/-- A book. -/
structure NB where
  k : Nat
  la : Option Addr
  lc : Nat
  ls : List SB
  wa : Option Addr
  wc : Nat
  ws : List SB
  ia : Option Addr
  ic : Nat
  is : List SIn
  ka : Option Addr
  kc : Nat
  ks : List SSB
  ma : Option Addr
  mc : Nat
  ms : List SMg
def NB.cells (B : NB) : List Value := [.slice B.la B.ls.length B.lc, .slice B.wa B.ws.length B.wc, .slice B.ia B.is.length B.ic, .slice B.ka B.ks.length B.kc, .slice B.ma B.ms.length B.mc]
abbrev NB.rest (B : NB) : List Ck := [ol 34 B.ia B.ic B.is, ol 27 B.ka B.kc B.ks, ol 37 B.ma B.mc B.ms, fam 3 B.is, fam 25 B.ks, fam 78 B.ms]
def NB.pieces (B : NB) : List Ck := [.hb B.k 32 B.cells, ol 25 B.la B.lc B.ls, ol 25 B.wa B.wc B.ws, fam 5 B.ls, fam 5 B.ws, .star B.rest]
abbrev NB.ck (B : NB) : Ck := .star B.pieces
theorem NB.open {B : NB} : Ent (B.ck :: H) (B.pieces ++ H) := Ent.open Ent.refl
theorem NB.shut {B : NB} : Ent (B.pieces ++ H) (B.ck :: H) := Ent.star Ent.refl
/-- What is true of a book. -/
structure NB.Ok (B : NB) (n : Nat) : Prop where
  same : B.ls.map SB.xs = B.ws.map SB.xs
  len : B.ls.length ≤ n
  leni : B.is.length ≤ n
  lenk : B.ks.length ≤ n
  lenm : B.ms.length ≤ n
  small : ∀ s ∈ B.ls, s.xs.length ≤ 4294967296
  smalli : ∀ s ∈ B.is, s.xs.length ≤ 4294967296
  smallk : ∀ s ∈ B.ks, s.xs.length ≤ 4294967296
  smallm : ∀ s ∈ B.ms, s.xs.length ≤ 4294967296
theorem NB.Ok.wlen {B : NB} {n : Nat} (h : B.Ok n) : B.ws.length = B.ls.length := by
  have := congrArg List.length h.same
  simpa using this.symm
theorem NB.Ok.mono {B : NB} {n m : Nat} (h : B.Ok n) (hm : n ≤ m) : B.Ok m := ⟨h.same, Nat.le_trans h.len hm, Nat.le_trans h.leni hm, Nat.le_trans h.lenk hm, Nat.le_trans h.lenm hm, h.small, h.smalli, h.smallk, h.smallm⟩
abbrev NBR (B : NB) (n : Nat) (H : List Ck) : Value → List Ck → Prop := fun _ H' => ∃ B' : NB, H' = B'.ck :: H ∧ B'.k = B.k ∧ B'.Ok n
set_option maxHeartbeats 1000000 in
theorem nkeep_s {B : NB} {n : Nat} {a : Option Addr} {c : Nat} {xs : Bs} (hB : B.Ok n) (hn : n ≤ 1099511627776) (hx : xs.length ≤ 4294967296) :
    FnS Try.prog w0 (ob a c xs :: B.ck :: H) 46 #[.pointer (some ⟨B.k, 0, none⟩), .slice a xs.length c] (NBR B (n + 1) H) := by
  have hl := hB.len
  have hw := hB.wlen
  refine fns_enter Try.func46 rfl rfl rfl ?_
  refine s_ent (.hb B.k 32 B.cells :: ol 25 B.la B.lc B.ls :: ol 25 B.wa B.wc B.ws :: fam 5 B.ls :: fam 5 B.ws :: .star B.rest :: ob a c xs :: H) ((Ent.perm (.swap _ _ _)).trans NB.open) ?_
  refine sx ?_
  refine s_bsl [(⟨a, c, xs⟩ : SB)] rfl rfl fun b9 => ?_
  refine s_app ?_
  intro la lc
  refine sx ?_
  refine s_drU (.hb B.k 32 [.slice la (B.ls ++ [(⟨a, c, xs⟩ : SB)]).length lc, .slice B.wa B.ws.length B.wc, .slice B.ia B.is.length B.ic, .slice B.ka B.ks.length B.kc, .slice B.ma B.ms.length B.mc] :: ob a c xs :: H) (.one true 0 (.one true 1 (.one true 2 (.one true 3 (.one true 4 (.one true 6 (.one false 5 (.one false 7 (.one false 8 (.one false 9 (.one true 10 (.one true 11 .nil)))))))))))) (.one false 12 .nil) [12] #[true, true, true, true, true, true, true, true, true, true, true, true, false] mixed (by kernel_rfl) ?_
  refine sx ?_
  refine s_bsl ([] : List UInt8) rfl rfl fun b10 => ?_
  refine sx ?_
  refine s_app ?_
  intro a' c'
  refine sx ?_
  refine s_bsl [(⟨a', c', xs⟩ : SB)] rfl rfl fun b11 => ?_
  refine s_app ?_
  intro wa wc
  refine sx ?_
  refine s_bar ?_
  refine sx ?_
  refine s_end0 rfl ⟨{ B with la := la, lc := lc, ls := B.ls ++ [⟨a, c, xs⟩], wa := wa, wc := wc, ws := B.ws ++ [⟨a', c', xs⟩] }, rfl, rfl, ?_⟩ ?_
  · refine ⟨by simp only [List.map_append, hB.same, List.map_cons, List.map_nil], by simp only [List.length_append, List.length_cons, List.length_nil]; omega, by have := hB.leni; show B.is.length ≤ n + 1; omega, by have := hB.lenk; show B.ks.length ≤ n + 1; omega, by have := hB.lenm; show B.ms.length ≤ n + 1; omega, fun s hs => ?_, hB.smalli, hB.smallk, hB.smallm⟩
    simp only [List.mem_append, List.mem_singleton] at hs
    rcases hs with hs | rfl
    · exact hB.small s hs
    · exact hx
  · refine Ent.trans ?_ NB.shut
    refine Ent.cons (by exact rm) ?_
    refine Ent.cons (by exact rm) ?_
    refine Ent.cons (by exact rm) ?_
    refine Ent.famS (by exact rm) (by exact rm) ?_
    refine Ent.famS (by exact rm) (by exact rm) ?_
    exact ent
set_option maxHeartbeats 1000000 in
theorem nmessages_s {B : NB} {n : Nat} {a : Option Addr} {c : Nat} {ms : List Mg} (hB : B.Ok n) (hn : n + 3 * ms.length ≤ 1099511627776) (hl : ms.length ≤ 4294967296) (hx : ∀ m ∈ ms, m.lo.length ≤ 4294967296 ∧ m.hi.length ≤ 4294967296 ∧ m.v.length ≤ 4294967296) :
    FnS Try.prog w0 (ol 78 a c ms :: stars oM ms :: B.ck :: H) 47 #[.pointer (some ⟨B.k, 0, none⟩), .slice a ms.length c] (NBR B (n + 3 * ms.length + 1) H) := by
  refine fns_enter Try.func47 rfl rfl rfl ?_
  refine sx ?_
  refine s_loop (fun (i : Nat × NB) => [(0, .pointer (some ⟨B.k, 0, none⟩)), (1, .slice a ms.length c), (4, .int .i64 i.1)]) (fun i => ol 78 a c ms :: stars oM (ms.drop i.1) :: i.2.ck :: H)
    (fun i => i.1 ≤ ms.length ∧ i.2.k = B.k ∧ i.2.Ok (n + 3 * i.1)) (fun i => ms.length - i.1) (0, B) ⟨Nat.zero_le _, rfl, hB⟩ ?_ (he := Ent.refl)
  rintro ⟨i, B1⟩ ⟨hi, hk, h1⟩
  simp only at hi hk h1 ⊢
  refine sx ?_
  refine s_if rfl (fun t1 => ?_) (fun t1 => ?_)
  · obtain ⟨m, hm⟩ := get_lt ms i (by omega)
    obtain ⟨z1, z2, z3⟩ := hx m (List.mem_of_getElem? hm)
    refine s_ent (ol 78 a c ms :: ob m.la m.lc m.lo :: ob m.ha m.hc m.hi :: ob m.va m.vc m.v :: stars oM (ms.drop (i + 1)) :: B1.ck :: H) (by
      rw [dropC hm]
      exact Ent.head stars_cons) ?_
    refine sx ?_
    rw [← hk]
    refine s_call rfl ((nkeep_s (a := m.la) (c := m.lc) (xs := m.lo) (H := ol 78 a c ms :: ob m.ha m.hc m.hi :: ob m.va m.vc m.v :: stars oM (ms.drop (i + 1)) :: H) h1 (by omega) z1).ent (by exact entq)) ?_
    rintro _ _ ⟨B2, rfl, hk2, h2⟩
    refine ⟨chk_seq, ?_⟩
    refine sx ?_
    rw [← hk2]
    refine s_call rfl ((nkeep_s (a := m.ha) (c := m.hc) (xs := m.hi) (H := ol 78 a c ms :: ob m.va m.vc m.v :: stars oM (ms.drop (i + 1)) :: H) h2 (by omega) z2).ent (by exact entq)) ?_
    rintro _ _ ⟨B3, rfl, hk3, h3⟩
    refine ⟨chk_seq, ?_⟩
    refine sx ?_
    rw [← hk3]
    refine s_call rfl ((nkeep_s (a := m.va) (c := m.vc) (xs := m.v) (H := ol 78 a c ms :: stars oM (ms.drop (i + 1)) :: H) h3 (by omega) z3).ent (by exact entq)) ?_
    rintro _ _ ⟨B4, rfl, hk4, h4⟩
    refine ⟨chk_seq, ?_⟩
    refine sx ?_
    exact s_again (i + 1, B4) ⟨by simp only; omega, by simp only; omega, h4⟩ (by simp only; omega) (he := by exact entq)
  · obtain rfl : i = ms.length := by omega
    have hlm := h1.lenm
    refine s_ent (.hb B1.k 32 B1.cells :: ol 25 B1.la B1.lc B1.ls :: ol 25 B1.wa B1.wc B1.ws :: fam 5 B1.ls :: fam 5 B1.ws :: ol 34 B1.ia B1.ic B1.is :: ol 27 B1.ka B1.kc B1.ks :: ol 37 B1.ma B1.mc B1.ms :: fam 3 B1.is :: fam 25 B1.ks :: fam 78 B1.ms :: ol 78 a c ms :: H) ?_ ?_
    · refine Ent.trans (H' := B1.ck :: ol 78 a c ms :: H) (by exact entq) ?_
      exact NB.open.trans (Ent.head (Ent.head (Ent.head (Ent.head (Ent.head (Ent.open Ent.refl))))))
    rw [← hk]
    refine sx ?_
    refine s_bsl [(⟨a, c, ms⟩ : SMg)] rfl rfl fun b9 => ?_
    refine s_app ?_
    intro ea ec
    refine sx ?_
    refine s_end0 rfl ⟨{ B1 with ma := ea, mc := ec, ms := B1.ms ++ [⟨a, c, ms⟩] }, rfl, hk, ?_⟩ ?_
    · refine ⟨h1.same, by have := h1.len; show B1.ls.length ≤ _; omega, by have := h1.leni; show B1.is.length ≤ _; omega, by have := h1.lenk; show B1.ks.length ≤ _; omega, by simp only [List.length_append, List.length_cons, List.length_nil]; omega, h1.small, h1.smalli, h1.smallk, fun f hf => ?_⟩
      simp only [List.mem_append, List.mem_singleton] at hf
      rcases hf with hf | rfl
      · exact h1.smallm f hf
      · exact hl
    refine Ent.trans ?_ NB.shut
    refine Ent.cons (by exact rm) (Ent.cons (by exact rm) (Ent.cons (by exact rm) (Ent.cons (by exact rm) (Ent.cons (by exact rm) ?_))))
    refine Ent.star ?_
    refine Ent.cons (by exact rm) (Ent.cons (by exact rm) (Ent.cons (by exact rm) (Ent.cons (by exact rm) (Ent.cons (by exact rm) ?_))))
    refine Ent.famS (by exact rm) (by exact rm) ?_
    exact ent
set_option maxHeartbeats 1000000 in
theorem nnode_s {B : NB} {n : Nat} {q : Nd} (hB : B.Ok n) (hn : n + q.k.ks.length + 3 * q.ms.length + 3 ≤ 1099511627776) (hlp : q.k.ps.length ≤ 4294967296) (hlk : q.k.ks.length ≤ 4294967296) (hl : q.ms.length ≤ 4294967296) (hk : ∀ p ∈ q.k.ks, p.xs.length ≤ 4294967296) (hx : ∀ m ∈ q.ms, m.lo.length ≤ 4294967296 ∧ m.hi.length ≤ 4294967296 ∧ m.v.length ≤ 4294967296) :
    FnS Try.prog w0 (oN q (B.ck :: H)) 15 #[.pointer (some ⟨B.k, 0, none⟩), .agg q.cells.toArray] (NBR B (n + q.k.ks.length + 3 * q.ms.length + 3) H) := by
  refine fns_enter Try.func15 rfl rfl rfl ?_
  obtain ⟨⟨pa, pc, ps, ka, kc, ks⟩, ma, mc, ms⟩ := q
  simp only at hn hlp hlk hl hk hx ⊢
  refine s_ent (ol 3 pa pc ps :: ol 25 ka kc ks :: fam 5 (ks.drop 0) :: ol 78 ma mc ms :: stars oM ms :: B.ck :: H) (Ent.open Ent.refl) ?_
  refine sx ?_
  refine s_boxA rfl fun b3 => ?_
  refine sx ?_
  refine s_loop (fun (i : Nat × NB) => [(0, .pointer (some ⟨B.k, 0, none⟩)), (3, .pointer (some ⟨b3, 0, none⟩)), (4, .int .i64 i.1)]) (fun i => .hb b3 39 (Nd.cells ⟨⟨pa, pc, ps, ka, kc, ks⟩, ma, mc, ms⟩) :: ol 3 pa pc ps :: ol 25 ka kc ks :: fam 5 (ks.drop i.1) :: ol 78 ma mc ms :: stars oM ms :: i.2.ck :: H)
    (fun i => i.1 ≤ ks.length ∧ i.2.k = B.k ∧ i.2.Ok (n + i.1)) (fun i => ks.length - i.1) (0, B) ⟨Nat.zero_le _, rfl, hB⟩ ?_ (he := Ent.refl)
  rintro ⟨i, B1⟩ ⟨hi, hkk, h1⟩
  simp only at hi hkk h1 ⊢
  refine sx ?_
  refine s_rw (t := 7) (v' := .pointer (some ((⟨b3, 0, none⟩ : Addr).add 1))) rfl rfl ?_
  refine sx ?_
  refine s_if rfl (fun t1 => ?_) (fun t1 => ?_)
  · have t1 : (i : Int) < (ks.length : Int) := t1
    obtain ⟨p, hp⟩ := get_lt ks i (by omega)
    have hz := hk p (List.mem_of_getElem? hp)
    refine s_ent (.hb b3 39 (Nd.cells ⟨⟨pa, pc, ps, ka, kc, ks⟩, ma, mc, ms⟩) :: ol 3 pa pc ps :: ol 25 ka kc ks :: ob p.a p.c p.xs :: fam 5 (ks.drop (i + 1)) :: ol 78 ma mc ms :: stars oM ms :: B1.ck :: H) (by
      rw [dropC hp]
      exact Ent.head (Ent.head (Ent.head fam_cons))) ?_
    refine sx ?_
    refine s_rw (t := 15) (v' := .pointer (some ((⟨b3, 0, none⟩ : Addr).add 1))) rfl rfl ?_
    refine sx ?_
    rw [← hkk]
    refine s_call rfl ((nkeep_s (a := p.a) (c := p.c) (xs := p.xs) (H := .hb b3 39 (Nd.cells ⟨⟨pa, pc, ps, ka, kc, ks⟩, ma, mc, ms⟩) :: ol 3 pa pc ps :: ol 25 ka kc ks :: fam 5 (ks.drop (i + 1)) :: ol 78 ma mc ms :: stars oM ms :: H) h1 (by omega) hz).ent (by exact entq)) ?_
    rintro _ _ ⟨B2, rfl, hk2, h2⟩
    refine ⟨chk_seq, ?_⟩
    refine sx ?_
    exact s_again (i + 1, B2) ⟨by simp only; omega, by simp only; omega, h2⟩ (by simp only; omega) (he := by exact entq)
  have t1 : ¬ (i : Int) < (ks.length : Int) := t1
  obtain rfl : i = ks.length := by omega
  have hlk' := h1.lenk
  have hli' := h1.leni
  refine s_ent (.hb b3 39 (Nd.cells ⟨⟨pa, pc, ps, ka, kc, ks⟩, ma, mc, ms⟩) :: .hb B1.k 32 B1.cells :: ol 25 B1.la B1.lc B1.ls :: ol 25 B1.wa B1.wc B1.ws :: fam 5 B1.ls :: fam 5 B1.ws :: ol 34 B1.ia B1.ic B1.is :: ol 27 B1.ka B1.kc B1.ks :: ol 37 B1.ma B1.mc B1.ms :: fam 3 B1.is :: fam 25 B1.ks :: fam 78 B1.ms :: ol 3 pa pc ps :: ol 25 ka kc ks :: ol 78 ma mc ms :: stars oM ms :: H) ?_ ?_
  · refine Ent.head ?_
    refine Ent.trans (H' := B1.ck :: ol 3 pa pc ps :: ol 25 ka kc ks :: ol 78 ma mc ms :: stars oM ms :: H) (by exact entq) ?_
    exact NB.open.trans (Ent.head (Ent.head (Ent.head (Ent.head (Ent.head (Ent.open Ent.refl))))))
  rw [← hkk]
  refine sx ?_
  refine s_drU (.hb b3 39 (Nd.cells ⟨⟨pa, pc, ps, ka, kc, ks⟩, ma, mc, ms⟩) :: .hb B1.k 32 B1.cells :: H) (.one true 0 (.one true 1 (.one true 2 (.one true 3 (.one true 4 (.one true 5 (.one true 6 (.one true 7 (.one false 8 (.one false 9 (.one true 10 (.one true 11 .nil)))))))))))) (.one false 12 .nil) [12] #[true, true, true, true, true, true, true, true, true, true, true, true, false] mixed (by kernel_rfl) ?_ (by exact entq)
  refine sx ?_
  refine s_rw (t := 27) (v' := .pointer (some ((⟨b3, 0, none⟩ : Addr).add 1))) rfl rfl ?_
  refine sx ?_
  refine s_rw (t := 28) (v' := .slice ka ks.length kc) rfl rfl ?_
  refine s_bsl [(⟨ka, kc, ks⟩ : SSB)] rfl rfl fun b29 => ?_
  refine s_app ?_
  intro ka2 kc2
  refine sx ?_
  refine s_bar ?_
  refine sx ?_
  refine s_drU (.hb b3 39 (Nd.cells ⟨⟨pa, pc, ps, ka, kc, ks⟩, ma, mc, ms⟩) :: .hb B1.k 32 [.slice B1.la B1.ls.length B1.lc, .slice B1.wa B1.ws.length B1.wc, .slice B1.ia B1.is.length B1.ic, .slice ka2 (B1.ks ++ [(⟨ka, kc, ks⟩ : SSB)]).length kc2, .slice B1.ma B1.ms.length B1.mc] :: H) (.one true 0 (.one true 1 (.one true 2 (.one true 3 (.one true 4 (.one true 5 (.one true 6 (.one true 7 (.one false 8 (.one false 9 (.one true 10 (.one true 11 .nil)))))))))))) (.one false 12 .nil) [12] #[true, true, true, true, true, true, true, true, true, true, true, true, false] mixed (by kernel_rfl) ?_
  refine sx ?_
  refine s_rw (t := 39) (v' := .pointer (some ((⟨b3, 0, none⟩ : Addr).add 0))) rfl rfl ?_
  refine sx ?_
  refine s_rw (t := 40) (v' := .slice pa ps.length pc) rfl rfl ?_
  refine s_bsl [(⟨pa, pc, ps⟩ : SIn)] rfl rfl fun b41 => ?_
  refine s_app ?_
  intro ia2 ic2
  refine sx ?_
  refine s_bar ?_
  refine sx ?_
  have h2 : NB.Ok { B1 with ka := ka2, kc := kc2, ks := B1.ks ++ [⟨ka, kc, ks⟩], ia := ia2, ic := ic2, is := B1.is ++ [⟨pa, pc, ps⟩] } (n + ks.length + 1) := by
    refine ⟨h1.same, by have := h1.len; show B1.ls.length ≤ _; omega, by simp only [List.length_append, List.length_cons, List.length_nil]; omega, by simp only [List.length_append, List.length_cons, List.length_nil]; omega, by have := h1.lenm; show B1.ms.length ≤ _; omega, h1.small, fun f hf => ?_, fun f hf => ?_, h1.smallm⟩
    · simp only [List.mem_append, List.mem_singleton] at hf
      rcases hf with hf | rfl
      · exact h1.smalli f hf
      · exact hlp
    · simp only [List.mem_append, List.mem_singleton] at hf
      rcases hf with hf | rfl
      · exact h1.smallk f hf
      · exact hlk
  refine s_call rfl ((nmessages_s (a := ma) (c := mc) (ms := ms) (H := H) h2 (by omega) hl hx).ent ?_) ?_
  · refine Ent.cons (by exact rm) (Ent.cons (by exact rm) ?_)
    refine Ent.trans ?_ NB.shut
    refine Ent.cons (by exact rm) (Ent.cons (by exact rm) (Ent.cons (by exact rm) (Ent.cons (by exact rm) (Ent.cons (by exact rm) ?_))))
    refine Ent.star ?_
    refine Ent.cons (by exact rm) (Ent.cons (by exact rm) (Ent.cons (by exact rm) ?_))
    refine Ent.famS (by exact rm) (by exact rm) ?_
    refine Ent.famS (by exact rm) (by exact rm) ?_
    exact ent
  rintro _ _ ⟨B3, rfl, hk3, h3⟩
  refine ⟨chk_seq, ?_⟩
  refine sx ?_
  refine s_end0 rfl ⟨B3, rfl, hk3.trans hkk, h3.mono (by omega)⟩ Ent.refl
end Go.Sx
namespace Go.Sx
open Go Go.Proofs
set_option maxRecDepth 10000
variable {w0 : World} {H : List Ck}
def markL (i : Nat) : UInt8 := UInt8.ofNat (1 + i % 251)
theorem mark_s {i : Nat} (hi : i ≤ 9223372036854775807) : FnV Try.prog w0 H 48 #[.int .i64 i] (bv (markL i)) := by
  refine fns_enter Try.func48 rfl rfl rfl ?_
  refine sx ?_
  refine s_ret1 rfl rfl ⟨?_, rfl⟩
  rw [show (1 + (i : Int) % 251) = ((1 + i % 251 : Nat) : Int) by omega, ofInt_nat]
  rfl
theorem full_s {xs : Bs} {a : Option Addr} {c : Nat} {m : UInt8} (ha : RBy w0 H a c xs) (hm : ∀ x ∈ xs, x = m) : FnV Try.prog w0 H 49 #[.slice a xs.length c, bv m] (.bool true) := by
  refine fns_enter Try.func49 rfl rfl rfl ?_
  refine s_kn (Kn.by ha) fun l1 => ?_
  simp only [maxLen] at l1
  refine sx ?_
  refine s_loop (fun i : Nat => [(0, .slice a xs.length c), (1, bv m), (5, .int .i64 i)]) (fun _ => H) (fun i => i ≤ xs.length) (fun i => xs.length - i) 0 (Nat.zero_le _) ?_
  intro i hi
  refine sx ?_
  refine s_if rfl (fun t1 => ?_) (fun t1 => ?_)
  · obtain ⟨x, hx⟩ := get_lt xs i (by omega)
    have hxe : xs.getD i 0 = m := by rw [List.getD_eq_getElem?_getD, hx]; exact hm x (List.mem_of_getElem? hx)
    refine sx ?_
    refine s_ifn rfl (fun t2 => absurd hxe t2) (fun t2 => ?_)
    refine sx ?_
    exact s_again (i + 1) (by omega) (by omega)
  · refine sx ?_
    exact s_ret1 rfl rfl ⟨rfl, rfl⟩
theorem take_snoc' {α : Type} {l : List α} {i : Nat} {e : α} (h : l[i]? = some e) : l.take (i + 1) = l.take i ++ [e] := snocT h
theorem drop_get {α : Type} {l : List α} {i : Nat} {x : α} (h : l[i]? = some x) : l.drop i = x :: l.drop (i + 1) := dropC h
section
variable {α β : Type} [Cel α] [Row β α] {E : TypeId} {F G : List β} {s : β} {R1 R2 R3 H' : List Ck}
theorem Ent.famK (h1 : Rm (Row.ck E s) H R1) (h2 : Rm (fam E F) R1 R2) (h : Ent R2 H') : Ent H (fam E (s :: F) :: H') :=
  ((Ent.perm h1.out).trans (Ent.head ((Ent.perm h2.out).trans (Ent.head h)))).trans fam_cons'
theorem Ent.famKA (h1 : Rm (Row.ck E s) H R1) (h2 : Rm (fam E F) R1 R2) (h3 : Rm (fam E G) R2 R3) (h : Ent R3 H') : Ent H (fam E ((s :: F) ++ G) :: H') :=
  (((Ent.perm h1.out).trans (Ent.head ((Ent.perm h2.out).trans (Ent.head ((Ent.perm h3.out).trans (Ent.head h)))))).trans fam_cons').trans fam_app
end
theorem putG {α : Type} {p : α → Prop} {xs : List α} {i : Nat} {e : α} (h : ∀ y ∈ xs, p y) (he : p e) : ∀ y ∈ putL xs i [e], p y := fun y hy => by
  rcases putL_mem hy with h1 | h1
  · exact h y h1
  · rw [List.mem_singleton.1 h1]; exact he
theorem tkG {α : Type} {p : α → Prop} {xs : List α} {i : Nat} {e : α} (h : ∀ y ∈ xs, p y) (he : p e) : ∀ y ∈ xs.take i ++ [e], p y := fun y hy => by
  rcases List.mem_append.1 hy with h1 | h1
  · exact h y (List.mem_of_mem_take h1)
  · rw [List.mem_singleton.1 h1]; exact he
/-- What a list is when all has one mark. -/
def mk1 (i : Nat) (s : SB) : SB := ⟨s.a, s.c, List.replicate s.xs.length (markL i)⟩
def mks (ls : List SB) : List SB := ls.mapIdx mk1
theorem mks_len (ls : List SB) : (mks ls).length = ls.length := by simp [mks]
theorem mks_get {ls : List SB} {i : Nat} {s : SB} (h : ls[i]? = some s) : (mks ls)[i]? = some (mk1 i s) := by simp [mks, h]
theorem rep_all {α : Type} {m : α} {n : Nat} {xs : List α} (hn : xs.length = n) (h : ∀ j, j < n → xs[j]? = some m) : xs = List.replicate n m := by
  apply List.ext_getElem?
  intro j
  by_cases hj : j < n
  · rw [h j hj, List.getElem?_replicate, if_pos hj]
  · rw [List.getElem?_eq_none (by omega), List.getElem?_eq_none (by simp; omega)]
theorem fullV {D : List SB} {a : Option Addr} {c n : Nat} {m : UInt8} (h : Vw (· = m) D a c n) (e : Ent H (fam 5 D :: [])) : FnV Try.prog w0 H 49 #[.slice a n c, bv m] (.bool true) := by
  obtain ⟨ys, h1, h2, h3⟩ := h.by (E := 5)
  have hf := full_s (w0 := w0) (H := H) (RBy.ent (h3 w0 []) e) (m := m) h2
  rw [h1] at hf
  exact hf
theorem putM {m : UInt8} {xs : Bs} {p : Nat} (h : ∀ y ∈ xs, y = m) : ∀ y ∈ putL xs p [m], y = m := putG h rfl
theorem tkM {m : UInt8} {xs : Bs} {p : Nat} (h : ∀ y ∈ xs, y = m) : ∀ y ∈ xs.take p ++ [m], y = m := tkG h rfl
end Go.Sx
