/- Part of a proof: several parts of a walk, one behind the other. -/
import Derived.Test.YtimakbpghggdfaaGreatCGB
import Derived.Test.YtimakbpghggdfaaGreatCOW
import Derived.Shelf.SlSortCmp.NoneTotal
namespace Go.Sx
open Go Go.Proofs
set_option maxRecDepth 10000
variable {w0 : World} {H : List Ck}
theorem qk_me {k : Nat} {a b : T3} (h1 : QK k a) (h2 : QK k b) : QK k (meR a b) := by
  unfold meR
  split
  · exact ⟨Nat.zero_le _, Nat.zero_le _⟩
  refine qk_fo ⟨?_, ?_⟩
  · simp only
    split
    · exact h2.1
    · exact h1.1
  · simp only
    split
    · exact h2.2
    · exact h1.2
theorem qk_mi {k : Nat} {a b : T3} (h1 : QK k a) (h2 : QK k b) : QK k (miR a b).1 ∧ QK k (miR a b).2 := by
  unfold miR
  split
  · exact ⟨qk_fo h1, ⟨Nat.zero_le _, Nat.zero_le _⟩⟩
  · refine ⟨qk_me h1 ⟨Nat.zero_le _, h2.1⟩, ?_⟩
    simp only
    split
    · exact ⟨Nat.zero_le _, Nat.zero_le _⟩
    · exact qk_me h1 ⟨h2.2, Nat.zero_le _⟩
structure WoI where
  j : Nat
  rc : Rg
  a : Option Addr
  c : Nat
  out : List Rg
  L : List Ck
set_option maxHeartbeats 2000000 in
theorem without_s {r : Rg} {a : Option Addr} {c : Nat} {os : List Rg} (hr : RRg w0 H r) (ho : RSl w0 H a c os) (hor : ∀ o ∈ os, RRg w0 H o) (hn : os.length ≤ 1099511627776) (lr : Lr r) (lo : ∀ o ∈ os, Lr o) :
    FnS Tryz.prog w0 H 47 #[.agg r.cells.toArray, .slice a os.length c] (fun v H' => ∃ a' c' ps L, v = .slice a' (ps : List Rg).length c' ∧ H' = .star L :: H ∧ ps.map Rg.d = woR r.d (os.map Rg.d) ∧ ps.length ≤ os.length + 1 ∧ (∀ H0, RSl w0 (.star L :: H0) a' c' ps) ∧ ∀ H0, RRg w0 H0 r → ∀ p ∈ ps, RRg w0 (.star L :: H0) p) := by
  refine fns_enter Tryz.func47 rfl rfl rfl ?_
  refine sx ?_
  refine s_boxA rfl fun b2 => ?_
  refine sx ?_
  refine s_loop (fun i : WoI => [(2, .pointer (some ⟨b2, 0, none⟩)), (5, .slice i.a i.out.length i.c), (10, .slice a os.length c), (11, .int .i64 os.length), (12, .int .i64 i.j)]) (fun i => .hb b2 53 i.rc.cells :: ol 53 i.a i.c i.out :: .star i.L :: H)
    (fun i => i.j ≤ os.length ∧ i.out.length ≤ i.j ∧ woR r.d (os.map Rg.d) = i.out.map Rg.d ++ woR i.rc.d ((os.drop i.j).map Rg.d) ∧ (∀ H0, RRg w0 H0 r → RRg w0 (.star i.L :: H0) i.rc) ∧ (∀ H0, RRg w0 H0 r → ∀ p ∈ i.out, RRg w0 (.star i.L :: H0) p) ∧ Lr i.rc) (fun i => os.length - i.j) ⟨0, r, none, 0, [], []⟩ ⟨Nat.zero_le _, Nat.zero_le _, rfl, fun H0 h => h.tl, fun H0 _ p h => (by cases h), lr⟩ ?_ (he := by
      refine Ent.head ?_
      exact Ent.nilS.trans (Ent.head Ent.star0))
  rintro ⟨j, rc, a5, c5, out, L⟩ ⟨hj, hol, hwo, hrG, hoG, hlr⟩
  simp only at hj hol hwo hrG hoG hlr ⊢
  have hrc := hrG H hr
  refine sx ?_
  refine s_if rfl (fun t1 => ?_) (fun t1 => ?_)
  · have t1 : (j : Int) < (os.length : Int) := t1
    obtain ⟨o, hoj⟩ := get_lt os j (by omega)
    have hom := List.mem_of_getElem? hoj
    have hlo := lo o hom
    have ho2 : RSl w0 (.hb b2 53 rc.cells :: ol 53 a5 c5 out :: .star L :: H) a c os := ho.tl.tl.tl
    rw [dropG hoj, List.map_cons] at hwo
    refine sx ?_
    refine s_alloc fun b7 => ?_
    refine sx ?_
    refine s_call rfl (omeet_s (r := rc) (q := o) hrc.tl.tl.tl (hor o hom).tl.tl.tl.tl hlr hlo) ?_
    rintro _ _ ⟨x, rfl, hxd, rfl⟩
    refine ⟨chk_seq, ?_⟩
    refine s_callV rfl (oempty_s (r := x) (by exact rrg)) ?_
    rw [hxd]
    refine sx ?_
    refine s_cond rfl (fun t2 => ?_) (fun t2 => ?_)
    · refine sx ?_
      refine s_again ⟨j + 1, rc, a5, c5, out, L⟩ ⟨by simp only; omega, by simp only; omega, ?_, hrG, hoG, hlr⟩ (by simp only; omega) (he := by exact entq)
      simp only
      rw [hwo, woR, if_pos t2]
    · refine sx ?_
      refine s_call rfl (ominus_s (r := rc) (q := o) hrc.tl.tl.tl.tl (hor o hom).tl.tl.tl.tl.tl hlr hlo) ?_
      rintro _ _ ⟨y, z, rfl, hyd, hzd, rfl⟩
      refine ⟨chk_seq, ?_⟩
      refine sx ?_
      refine s_alloc fun b8 => ?_
      refine sx ?_
      refine s_alloc fun b9 => ?_
      refine sx ?_
      have ry : RRg w0 (.hb b9 53 z.cells :: .hb b8 53 y.cells :: oR y :: oR z :: oR x :: .hb b7 53 o.cells :: .hb b2 53 rc.cells :: ol 53 a5 c5 out :: .star L :: H) y := RRg.oR.tl.tl
      refine s_callV rfl (oempty_s (r := y) ry) ?_
      rw [hyd]
      have hm := qk_mi (k := 140737488355328) (a := rc.d) (b := o.d) hlr hlo
      rw [← hzd] at hm
      have eL : ∀ H0, Ent (.star (oR y :: oR z :: L) :: H0) (.star L :: H0) := fun H0 => Ent.open (Ent.tl (Ent.tl (Ent.star Ent.refl)))
      have hz : ∀ H0, RRg w0 H0 r → RRg w0 (.star (oR y :: oR z :: L) :: H0) z := fun H0 _ => RRg.ent (RRg.oR (r := z) (H := L ++ H0)) (Ent.open (Ent.tl Ent.refl))
      have hy : ∀ H0, RRg w0 (.star (oR y :: oR z :: L) :: H0) y := fun H0 => RRg.ent (RRg.oR (r := y) (H := oR z :: (L ++ H0))) (Ent.open Ent.refl)
      refine sx ?_
      refine s_cond rfl (fun t3 => ?_) (fun t3 => ?_)
      · have t3' : ¬ emR (miR rc.d o.d).1 = true := by simpa using t3
        refine sx ?_
        refine s_bsl [y] rfl rfl fun b31 => ?_
        refine sx ?_
        refine s_app ?_ (hby := by simp only [List.length_cons, List.length_nil]; omega)
        intro a6 c6
        refine sx ?_
        refine s_again ⟨j + 1, z, a6, c6, out ++ [y], oR y :: oR z :: L⟩ ⟨by simp only; omega, by simp only [List.length_append, List.length_cons, List.length_nil]; omega, ?_, hz, fun H0 h0 p hp => ?_, hm.2⟩ (by simp only; omega) (he := ?_)
        · simp only
          rw [hwo, woR, if_neg (by rw [t2]; decide), if_neg t3', List.map_append, ← hzd, ← hyd]
          simp
        · simp only at hp ⊢
          rcases List.mem_append.1 hp with hp | hp
          · exact RRg.ent (hoG H0 h0 p hp) (eL H0)
          · rw [List.mem_singleton.1 hp]; exact hy H0
        · simp only
          refine Ent.trans (H' := .hb b2 53 z.cells :: ol 53 a6 c6 (out ++ [y]) :: oR y :: oR z :: .star L :: H) (by first | exact entq | exact ent) ?_
          exact Ent.head (Ent.head (Ent.star (Ent.head (Ent.head (Ent.open Ent.refl)))))
      · have t3' : emR (miR rc.d o.d).1 = true := by simpa using t3
        refine sx ?_
        refine s_again ⟨j + 1, z, a5, c5, out, oR y :: oR z :: L⟩ ⟨by simp only; omega, by simp only; omega, ?_, hz, fun H0 h0 p hp => RRg.ent (hoG H0 h0 p hp) (eL H0), hm.2⟩ (by simp only; omega) (he := ?_)
        · simp only
          rw [hwo, woR, if_neg (by rw [t2]; decide), if_pos t3', ← hzd]
          simp
        · simp only
          refine Ent.trans (H' := .hb b2 53 z.cells :: ol 53 a5 c5 out :: oR y :: oR z :: .star L :: H) (by first | exact entq | exact ent) ?_
          exact Ent.head (Ent.head (Ent.star (Ent.head (Ent.head (Ent.open Ent.refl)))))
  have t1 : ¬ (j : Int) < (os.length : Int) := t1
  obtain rfl : j = os.length := by omega
  rw [List.drop_length, List.map_nil, woR] at hwo
  refine sx ?_
  refine s_callV rfl (oempty_s (r := rc) hrc.tl.tl) ?_
  refine sx ?_
  have eL : ∀ (a6 : Option Addr) (c6 : Nat) (o6 : List Rg) H0, Ent (.star (ol 53 a6 c6 o6 :: L) :: H0) (.star L :: H0) := fun a6 c6 o6 H0 => Ent.open (Ent.tl (Ent.star Ent.refl))
  refine s_cond rfl (fun t3 => ?_) (fun t3 => ?_)
  · have t3' : ¬ emR rc.d = true := by simpa using t3
    rw [if_neg t3'] at hwo
    refine sx ?_
    refine s_bsl [rc] rfl rfl fun b31 => ?_
    refine sx ?_
    refine s_app ?_ (hby := by simp only [List.length_cons, List.length_nil]; omega)
    intro a6 c6
    refine sx ?_
    refine s_ret1 rfl rfl ⟨a6, c6, out ++ [rc], ol 53 a6 c6 (out ++ [rc]) :: L, rfl, rfl, by rw [hwo, List.map_append]; rfl, by simp only [List.length_append, List.length_cons, List.length_nil]; omega, fun H0 => RSl.ent (RSl.hd (H := L ++ H0) (E := 53)) (Ent.open Ent.refl), fun H0 h0 p hp => ?_⟩ ?_
    · rcases List.mem_append.1 hp with hp | hp
      · exact RRg.ent (hoG H0 h0 p hp) (eL _ _ _ _)
      · rw [List.mem_singleton.1 hp]; exact RRg.ent (hrG H0 h0) (eL _ _ _ _)
    · refine Ent.trans (H' := ol 53 a6 c6 (out ++ [rc]) :: .star L :: H) (by exact entq) ?_
      exact Ent.star (Ent.head (Ent.open Ent.refl))
  · have t3' : emR rc.d = true := by simpa using t3
    rw [if_pos t3', List.append_nil] at hwo
    refine sx ?_
    refine s_ret1 rfl rfl ⟨a5, c5, out, ol 53 a5 c5 out :: L, rfl, rfl, hwo.symm, by omega, fun H0 => RSl.ent (RSl.hd (H := L ++ H0) (E := 53)) (Ent.open Ent.refl), fun H0 h0 p hp => RRg.ent (hoG H0 h0 p hp) (eL _ _ _ _)⟩ ?_
    refine Ent.trans (H' := ol 53 a5 c5 out :: .star L :: H) (by exact entq) ?_
    exact Ent.star (Ent.head (Ent.open Ent.refl))
end Go.Sx
namespace Go.Proofs
open Go.Shelf Go.RowKit Go.Lib Go.Sort
def Tryz.sortPc_ren : Go.Shelf.Ren := ⟨fun | 6 => 50 | 15 => 86 | 14 => 85 | 28 => 116 | 29 => 117 | 20 => 108 | 21 => 109 | 22 => 110 | 23 => 111 | 24 => 112 | 25 => 113 | 26 => 114 | 27 => 115 | 46 => 145 | 47 => 146 | 48 => 147 | 49 => 148 | 50 => 149 | 57 => 166 | n => n, fun | 22 => 45 | 24 => 83 | 25 => 109 | 3 => 3 | 39 => 135 | 0 => 0 | 53 => 152 | 55 => 32 | 4 => 4 | 46 => 146 | 45 => 145 | 50 => 92 | 5 => 5 | 9 => 9 | 66 => 169 | 70 => 173 | 76 => 184 | 77 => 185 | n => n, fun | n => n⟩
theorem Tryz.sortPc : Go.Proofs.SlLaysF0.n6 Tryz.prog Tryz.sortPc_ren := {
  mixed := by kernel_rfl,
  f6 := ⟨Tryz.f50.name, by decide, Tryz.func50.trans (congrArg some (by kernel_rfl))⟩,
  f14 := ⟨Tryz.f85.name, by decide, Tryz.func85.trans (congrArg some (by kernel_rfl))⟩,
  f15 := Tryz.func86.trans (congrArg some (by kernel_rfl)),
  f20 := ⟨Tryz.f108.name, by decide, Tryz.func108.trans (congrArg some (by kernel_rfl))⟩,
  f21 := ⟨Tryz.f109.name, by decide, Tryz.func109.trans (congrArg some (by kernel_rfl))⟩,
  f22 := ⟨Tryz.f110.name, by decide, Tryz.func110.trans (congrArg some (by kernel_rfl))⟩,
  f23 := ⟨Tryz.f111.name, by decide, Tryz.func111.trans (congrArg some (by kernel_rfl))⟩,
  f24 := ⟨Tryz.f112.name, by decide, Tryz.func112.trans (congrArg some (by kernel_rfl))⟩,
  f25 := ⟨Tryz.f113.name, by decide, Tryz.func113.trans (congrArg some (by kernel_rfl))⟩,
  f26 := ⟨Tryz.f114.name, by decide, Tryz.func114.trans (congrArg some (by kernel_rfl))⟩,
  f27 := ⟨Tryz.f115.name, by decide, Tryz.func115.trans (congrArg some (by kernel_rfl))⟩,
  f28 := Tryz.func116.trans (congrArg some (by kernel_rfl)),
  f29 := Tryz.func117.trans (congrArg some (by kernel_rfl)),
  f46 := ⟨Tryz.f145.name, by decide, Tryz.func145.trans (congrArg some (by kernel_rfl))⟩,
  f47 := Tryz.func146.trans (congrArg some (by kernel_rfl)),
  f48 := Tryz.func147.trans (congrArg some (by kernel_rfl)),
  f49 := ⟨Tryz.f148.name, by decide, Tryz.func148.trans (congrArg some (by kernel_rfl))⟩,
  f50 := ⟨Tryz.f149.name, by decide, Tryz.func149.trans (congrArg some (by kernel_rfl))⟩,
  f57 := ⟨Tryz.f166.name, by decide, Tryz.func166.trans (congrArg some (by kernel_rfl))⟩,
  t0 := Tryz.underlying0,
  a0 := Tryz.isAgg0,
  z0 := Tryz.sizeOf0,
  v0 := Tryz.zeroValue0,
  t3 := Tryz.underlying3,
  a3 := Tryz.isAgg3,
  z3 := Tryz.sizeOf3,
  v3 := Tryz.zeroValue3,
  t4 := Tryz.underlying4,
  a4 := Tryz.isAgg4,
  z4 := Tryz.sizeOf4,
  v4 := Tryz.zeroValue4,
  t5 := Tryz.underlying5,
  a5 := Tryz.isAgg5,
  z5 := Tryz.sizeOf5,
  v5 := Tryz.zeroValue5,
  t9 := Tryz.underlying9,
  a9 := Tryz.isAgg9,
  z9 := Tryz.sizeOf9,
  v9 := Tryz.zeroValue9,
  t22 := Tryz.underlying45,
  a22 := Tryz.isAgg45,
  z22 := Tryz.sizeOf45,
  v22 := Tryz.zeroValue45,
  t25 := Tryz.underlying109,
  a25 := Tryz.isAgg109,
  z25 := Tryz.sizeOf109,
  v25 := Tryz.zeroValue109,
  t39 := Tryz.underlying135,
  a39 := Tryz.isAgg135,
  z39 := Tryz.sizeOf135,
  v39 := Tryz.zeroValue135,
  t45 := Tryz.underlying145,
  a45 := Tryz.isAgg145,
  z45 := Tryz.sizeOf145,
  v45 := Tryz.zeroValue145,
  t46 := Tryz.underlying146,
  a46 := Tryz.isAgg146,
  z46 := Tryz.sizeOf146,
  v46 := Tryz.zeroValue146,
  t50 := Tryz.underlying92,
  a50 := Tryz.isAgg92,
  z50 := Tryz.sizeOf92,
  v50 := Tryz.zeroValue92,
  t53 := Tryz.underlying152,
  a53 := Tryz.isAgg152,
  z53 := Tryz.sizeOf152,
  v53 := Tryz.zeroValue152,
  t55 := Tryz.underlying32,
  a55 := Tryz.isAgg32,
  z55 := Tryz.sizeOf32,
  v55 := Tryz.zeroValue32,
  t66 := Tryz.underlying169,
  a66 := Tryz.isAgg169,
  z66 := Tryz.sizeOf169,
  v66 := Tryz.zeroValue169,
  t70 := Tryz.underlying173,
  a70 := Tryz.isAgg173,
  z70 := Tryz.sizeOf173,
  v70 := Tryz.zeroValue173,
  t76 := Tryz.underlying184,
  a76 := Tryz.isAgg184,
  z76 := Tryz.sizeOf184,
  v76 := Tryz.zeroValue184,
  t77 := Tryz.underlying185,
  a77 := Tryz.isAgg185,
  z77 := Tryz.sizeOf185,
  v77 := Tryz.zeroValue185 }

end Go.Proofs
namespace Go.Sx
open Go Go.Proofs Go.Sort
set_option maxRecDepth 10000
/-- A piece, and where its bytes lie. -/
structure Pc where
  put : Bool
  ka : Option Addr
  kc : Nat
  key : Bs
  va : Option Addr
  vc : Nat
  v : Bs
  g : Rg
def Pc.cells (p : Pc) : List Value := [.bool p.put, .slice p.ka p.key.length p.kc, .slice p.va p.v.length p.vc, .slice p.g.la p.g.lo.length p.g.lc, .slice p.g.ha p.g.hi.length p.g.hc, .bool p.g.all]
abbrev Pc.d (p : Pc) : PD := ⟨p.put, p.key, p.v, p.g.d⟩
abbrev pc0 : Pc := ⟨false, none, 0, [], none, 0, [], rg0⟩
instance celPc : Cel Pc := ⟨6, fun p => p.cells, fun _ => rfl, fun _ => rfl, by decide⟩
instance : ElT Tryz.prog 83 Pc := ⟨trivial⟩
def Pc.aa (p : Pc) : Option Addr := if p.put = true then p.ka else p.g.la
def Pc.ac (p : Pc) : Nat := if p.put = true then p.kc else p.g.lc
section
variable {M : Mode} {P : Program} {n : Nat} {ds : Dx} {ops : Array Oper} {Q : Exit → Act → World → Prop} {b : Bool} {rest : Tr} {l : List (Nat × Value)} {w : World}
variable {ty : TypeId} {pos : String} {af : Array Edge} {g : Option (Nat × Bool)}
/-- A call of a function value, of a world. -/
theorem l_callX {d : Nat} {k : FuncId} {x : Operand} {xs : List Operand} {ts : Array TypeId} {cap args : List Value} {R : Value → World → Prop} [hf' : FnT P k] (hc : ev l x = some (.func (.func k) #[] cap.toArray)) (ha : evs l xs = some args) (hf : Fn P k (args ++ cap).toArray w R)
    (h : ∀ v w', R v w' → M.chk w' ∧ LJ M P n ds ops Q rest ((d, v) :: l) w') (hb : (M.any || !b) = true) (hg : gOk ops l g = true) (hd : Nat.blt d n = true) :
    LJ M P n ds ops Q (.one b ⟨some d, .call { callee := .value x, args := xs.toArray, argTypes := ts }, ty, pos, af, g⟩ rest) l w := .mk fun a hfr => by
  unfold WL
  rw [if_pos (gOk_spec hg hfr)]
  refine .inr ⟨by simpa using hb, ?_⟩
  have hargs := evs_map hfr.agr ha
  have : (execOp a.eval ⟨some d, .call { callee := .value x, args := xs.toArray, argTypes := ts }, ty, pos, af, g⟩).run P w = .ok (.enter k (args ++ cap).toArray) w := by
    simp [execOp, resolve, hfr.agr _ _ hc, Deferred.ofValue, invoke, hargs, hf'.run]
  refine op_enter this hf ?_
  rintro e w' ⟨v, rfl, h1⟩
  exact ⟨(h v w' h1).1, ((h v w' h1).2).out _ (hfr.put v hd)⟩
end
theorem at_x (w : World) (x : Pc) : Fn Tryz.prog 49 #[.agg x.cells.toArray] w (fun v w' => v = .slice x.aa (atP x.d).length x.ac ∧ w' = w.alloc (.cells x.cells.toArray 83)) := by
  refine fn_enter Tryz.func49 rfl rfl rfl ?_
  obtain ⟨put, ka, kc, key, va, vc, v, g⟩ := x
  refine sxo ?_
  refine l_boxX rfl rfl rfl rfl trivial ?_
  have hN := New.mk' w 83 (Pc.cells ⟨put, ka, kc, key, va, vc, v, g⟩)
  have hb1 := hN.hb
  refine sxo ?_
  cases put
  · refine sxo ?_
    refine l_rw (t := 8) (v' := .pointer (some ((⟨w.heap.size, 0, none⟩ : Addr).add 3))) rfl rfl ?_
    refine sxo ?_
    exact q_ret1 rfl rfl ⟨rfl, rfl⟩
  · refine sxo ?_
    exact q_ret1 rfl rfl ⟨rfl, rfl⟩
theorem grow_drew (w : World) (os : Array Obj) (q : Nat) : (Sort.grow w os).drewN q = Sort.grow (w.drewN q) os := rfl
theorem drewN_add (w : World) (a : Nat) : ∀ q, (w.drewN a).drewN q = w.drewN (a + q)
  | 0 => rfl
  | q + 1 => by
    show ((w.drewN a).drewN q).drew = (w.drewN (a + q)).drew
    rw [drewN_add w a q]
theorem ex_grow (w : World) (os : Array Obj) : Ex w (Sort.grow w os) := by
  refine ⟨rfl, rfl, rfl, ?_, fun k hk _ => ?_⟩
  · simp [Sort.grow]
  · unfold Sort.grow
    rw [Array.getElem?_append_left hk]
theorem less_x (w : World) (x y : Pc) (bk : Nat) (hf : HB w bk 107 [.func (.func 49) #[] #[]]) (hx : By w x.aa x.ac (atP x.d)) (hy : By w y.aa y.ac (atP y.d)) :
    Fn Tryz.prog 51 #[.agg x.cells.toArray, .agg y.cells.toArray, .pointer (some ⟨bk, 0, none⟩)] w (fun v w' => v = .int .i64 (cmp (atP x.d) (atP y.d)) ∧ ∃ q os', w' = Sort.grow (w.drewN q) os') := by
  refine fn_enter Tryz.func51 rfl rfl rfl ?_
  refine sxo ?_
  refine l_boxX rfl rfl rfl rfl trivial ?_
  refine l_boxX rfl rfl rfl rfl trivial ?_
  have hN1 := New.mk' w 83 x.cells
  have hN2 := New.mk' (w.alloc (.cells x.cells.toArray 83)) 83 y.cells
  have hb1 := hN1.hb.ex hN2.ex
  have hb2 := hN2.hb
  have hx2 := (hx.ex hN1.ex).ex hN2.ex
  have hy2 := (hy.ex hN1.ex).ex hN2.ex
  have hf2 := (hf.ex hN1.ex).ex hN2.ex
  generalize hW : ((w.alloc (.cells x.cells.toArray 83)).alloc (.cells y.cells.toArray 83)) = W at hb1 hb2 hx2 hy2 hf2 ⊢
  refine sxo ?_
  refine c_draw (fun w' => ∃ q os, w' = Sort.grow (W.drewN q) os) (.one true 0 (.one true 1 (.one true 3 (.one true 4 (.one false 2 (.one false 5 (.one false 6 (.one true 7 .nil)))))))) mixed (by kernel_rfl) ⟨1, #[], by simp [Sort.grow]; rfl⟩ ?_
  have gh : ∀ {b : Nat} {T : TypeId} {vs : List Value}, HB W b T vs → ∀ w', (∃ q os, w' = Sort.grow (W.drewN q) os) → HB w' b T vs := by
    rintro b T vs h w' ⟨q, os, rfl⟩
    exact (h.ex (ex_drewN W q)).grow os
  have gb : ∀ {a : Option Addr} {c : Nat} {xs : Bs}, By W a c xs → ∀ w', (∃ q os, w' = Sort.grow (W.drewN q) os) → By w' a c xs := by
    rintro a c xs h w' ⟨q, os, rfl⟩
    exact (h.ex (ex_drewN W q)).ex (ex_grow _ os)
  refine l_y rfl rfl (y_load rfl fun w' hw => (gh hf2 w' hw).cell0 rfl) ?_
  refine l_y rfl rfl (y_loadA rfl (fun w' hw => (gh hb1 w' hw).cells) rfl) ?_
  refine l_y rfl rfl (y_load rfl fun w' hw => (gh hf2 w' hw).cell0 rfl) ?_
  refine l_y rfl rfl (y_loadA rfl (fun w' hw => (gh hb2 w' hw).cells) rfl) ?_
  refine l_callX rfl rfl (at_x _ x) ?_ rfl rfl rfl
  rintro _ _ ⟨rfl, rfl⟩
  refine ⟨⟨1, #[.cells x.cells.toArray 83], by rw [alloc_eq_grow]; rfl⟩, ?_⟩
  refine l_callX rfl rfl (at_x _ y) ?_ rfl rfl rfl
  rintro _ _ ⟨rfl, rfl⟩
  have e2 : (W.drew.alloc (.cells x.cells.toArray 83)).alloc (.cells y.cells.toArray 83) = Sort.grow (W.drewN 1) #[.cells x.cells.toArray 83, .cells y.cells.toArray 83] := by
    rw [alloc_eq_grow, alloc_eq_grow, grow_grow]; rfl
  refine ⟨⟨1, _, e2⟩, ?_⟩
  rw [e2]
  have k1 : By (Sort.grow (W.drewN 1) #[.cells x.cells.toArray 83, .cells y.cells.toArray 83]) x.aa x.ac (atP x.d) := gb hx2 _ ⟨1, _, rfl⟩
  have k2 : By (Sort.grow (W.drewN 1) #[.cells x.cells.toArray 83, .cells y.cells.toArray 83]) y.aa y.ac (atP y.d) := gb hy2 _ ⟨1, _, rfl⟩
  refine l_call rfl rfl rfl rfl (compare_x _ _ _ _ _ _ _ k1 k2) ?_
  rintro _ w2 ⟨rfl, q, rfl⟩
  refine ⟨⟨1 + q, _, by rw [grow_drew, drewN_add]⟩, ?_⟩
  refine sxo ?_
  refine q_ret1 rfl rfl ⟨rfl, 1 + q, #[.cells x.cells.toArray 83, .cells y.cells.toArray 83, .cells x.cells.toArray 83, .cells y.cells.toArray 83], ?_⟩
  rw [← hW, grow_drew, drewN_add, alloc_eq_grow, alloc_eq_grow, grow_grow, grow_drew, grow_grow]
  rfl
theorem sortP_go (w : World) (blk c bk : Nat) (rs : List Pc) (re : List Value) (G : Pc → Prop) (h0 : G pc0) (hr : ∀ r ∈ rs, G r) (hrd : ∀ W, Ext (fun i => i = blk) w W → ∀ r, G r → By W r.aa r.ac (atP r.d)) (hfw : ∀ W, Ext (fun i => i = blk) w W → HB W bk 107 [.func (.func 49) #[] #[]])
    (hB : HB w blk 83 (flat rs ++ re)) (hl : rs.length < 4611686018427387904) :
    Fn Tryz.prog 50 #[.slice (some ⟨blk, 0, none⟩) rs.length c, .func (.func 51) #[] #[.pointer (some ⟨bk, 0, none⟩)]] w (fun v w' => v = .tuple #[] ∧ ∃ rs', rs.Perm rs' ∧ rs'.Pairwise (fun x y => cmp (atP x.d) (atP y.d) ≤ 0) ∧ HB w' blk 83 (flat rs' ++ re) ∧ Ext (fun i => i = blk) w w') := by
  haveI : Inhabited {x : Pc // G x} := ⟨⟨pc0, h0⟩⟩
  let d : Array {x : Pc // G x} := (rs.pmap Subtype.mk hr).toArray
  have hdl : d.toList.map Subtype.val = rs := by simp [d, List.map_pmap]
  have hds : d.size = rs.length := by simp [d]
  have hF : (flatK (encS G) 6 d).toList = flat rs := by
    have := flatK_flat (G := G) d
    rw [hdl] at this
    exact this
  have hH : HoldsK (encS G) 6 w blk 0 d := by
    rw [← hF] at hB
    exact hB.holds
  let cf : {x : Pc // G x} → {x : Pc // G x} → Int := fun x y => cmp (atP x.1.d) (atP y.1.d)
  have hlt : ∀ x y, ltOf cf x y = decide (cmp (atP x.1.d) (atP y.1.d) < 0) := fun _ _ => rfl
  have hO : SWO (ltOf cf) := {
    irrefl := fun x => by rw [hlt, (cmp_eq (atP x.1.d) (atP x.1.d)).2 rfl]; rfl,
    trans := fun x y z h1 h2 => by
      rw [hlt, decide_eq_true_eq] at *
      exact (cmp_lt_trans (atP x.1.d) (atP y.1.d) (atP z.1.d) (by omega) (by omega)).2 (.inl h1),
    ntrans := fun x y z h1 h2 => by
      rw [hlt, decide_eq_false_iff_not] at *
      have a1 := cmp_anti (atP x.1.d) (atP y.1.d)
      have a2 := cmp_anti (atP y.1.d) (atP z.1.d)
      have a3 := cmp_anti (atP x.1.d) (atP z.1.d)
      have := (cmp_lt_trans (atP z.1.d) (atP y.1.d) (atP x.1.d) (by omega) (by omega)).1
      omega }
  have hcmp : CmpLays Tryz.prog 51 #[.pointer (some ⟨bk, 0, none⟩)] (encS G) 6 cf blk 0 d.size w := fun m os dk hs x y => by
    have hX := putRow_ext w blk m (flatK (encS G) 6 dk) os
    have h := less_x (sortWorldK (encS G) 6 w blk 0 m dk os) x.1 y.1 bk (hfw _ hX) (hrd _ hX x.1 x.2) (hrd _ hX y.1 y.2)
    refine Calls.mono h ?_
    rintro e w' ⟨v, he, rfl, q, os', hw⟩
    exact ⟨he, q, os', hw⟩
  have hcon := AnyQ.slices_SortFunc Tryz.sortPc 6 (fun w => AgT.agg (T := 83) w) (fun w => AgT.size (T := 83) w) (encS G) (fun x => Cel.len x.1) (fun x v hv => List.all_eq_true.1 (Cel.one x.1) v hv) cf hO 51 #[.pointer (some ⟨bk, 0, none⟩)] blk 0 c d w (fun args w => FnT.run args w) hcmp hH hB.lt (by rw [hds]; exact hl)
  rw [hds] at hcon
  refine Calls.mono hcon ?_
  rintro e w' ⟨he, d', n, os, hp, hs, rfl⟩
  have hp2 := perm_list (by rw [hds]; exact hp)
  have hsz : d'.size = rs.length := by have := hp2.length_eq; simp at this; omega
  refine ⟨_, he, rfl, d'.toList.map Subtype.val, ?_, ?_, ?_, putRow_ext w blk n (flatK (encS G) 6 d') os⟩
  · rw [← hdl]
    exact hp2.map _
  · rw [List.pairwise_map, List.pairwise_iff_getElem]
    intro i j hi hj hij
    have h := hs i j (Nat.zero_le _) hij (by simpa [hsz] using hj)
    rw [hlt, decide_eq_false_iff_not] at h
    have hi' : i < d'.size := by simpa using hi
    have hj' : j < d'.size := by simpa using hj
    rw [getElem!_pos d' i hi', getElem!_pos d' j hj'] at h
    have := cmp_anti (atP (d'[j]'hj').1.d) (atP (d'[i]'hi').1.d)
    simp only [Array.getElem_toList]
    omega
  · have hF2 := flatK_flat (G := G) d'
    rw [← hF2]
    refine HB.grow ?_ os
    exact HB.putRow (HB.ahead hB n) (flatK (encS G) 6 d') (by rw [size_flatK, hsz, flat_length]; rfl)
variable {w0 : World} {H : List Ck}
theorem sortP_s {a : Option Addr} {c bk : Nat} {rs : List Pc} (hl : rs.length < 4611686018427387904) (hr : ∀ r ∈ rs, RBy w0 H r.aa r.ac (atP r.d)) (hF : ∀ w, Sat w0 H w → HB w bk 107 [.func (.func 49) #[] #[]]) :
    FnS Tryz.prog w0 (ol 83 a c rs :: H) 50 #[.slice a rs.length c, .func (.func 51) #[] #[.pointer (some ⟨bk, 0, none⟩)]] (fun v H' => v = .tuple #[] ∧ ∃ rs', rs.Perm rs' ∧ rs'.Pairwise (fun x y => cmp (atP x.d) (atP y.d) ≤ 0) ∧ H' = ol 83 a c rs' :: H) := fun w hw => by
  have ho := Sat.ownOf (c' := ol 83 a c rs) .hd hw
  rcases ho.open with ⟨rfl, h0, rfl, _⟩ | ⟨blk, re, rfl, h1, h2, h3, h4, h5⟩
  · have e0 : rs = [] := List.eq_nil_of_length_eq_zero h0
    subst e0
    refine Calls.mono (AnyF.slices_SortFunc_none Tryz.sortPc none 0 (.func (.func 51) #[] #[.pointer (some ⟨bk, 0, none⟩)]) w) ?_
    rintro e w' ⟨he, rfl⟩
    exact ⟨_, he, _, ⟨rfl, [], .refl _, .nil, rfl⟩, hw⟩
  · have hcl : ∀ W, Ext (fun i => i = blk) w W → Sat w0 H W := fun W hX => by
      refine Sat.tl (c := .star []) (hw.upd (c' := .star []) fun S hS hc => ⟨hX.mono fun i _ e => by subst e; exact hc.2 _ rfl, fun _ => False, trivial, fun b hb => hb.elim⟩)
    refine Calls.mono (sortP_go w blk c bk rs re (fun r => RBy w0 H r.aa r.ac (atP r.d)) RBy.nil hr (fun W hX r h => h W (hcl W hX)) (fun W hX => hF W (hcl W hX)) h2 hl) ?_
    · rintro e w' ⟨v, he, rfl, rs', hp, hs, hB, hX⟩
      refine ⟨_, he, _, ⟨rfl, rs', hp, hs, rfl⟩, ?_⟩
      have hlen := hp.length_eq
      have hO : Own w' w0.heap.size 83 6 (some ⟨blk, 0, none⟩) rs'.length c (flat rs') := Own.mk' h1 hB (flat_length rs') (by omega) h4 (by
        have e1 : (flat rs').length = (flat rs).length := by rw [flat_length, flat_length, hlen]
        rw [e1]; exact h5)
      exact hw.own (ha := .hd) hO (hX.mono fun i _ e => by rw [e]; rfl) (fun ad' e => by cases e; exact .inl rfl)
end Go.Sx

