/- Part of a proof: pieces, put into the order of where they begin, by Go's own sort. -/
import Derived.Test.YtpnhoafmlhlfgaaCGC
import Derived.Shelf.SlSortCmp.NoneTotal
namespace Go.Proofs
open Go.Shelf Go.RowKit Go.Lib Go.Sort
def Try.sortPc_ren : Go.Shelf.Ren := ⟨fun | 6 => 60 | 15 => 71 | 14 => 70 | 28 => 82 | 29 => 83 | 20 => 74 | 21 => 75 | 22 => 76 | 23 => 77 | 24 => 78 | 25 => 79 | 26 => 80 | 27 => 81 | 46 => 92 | 47 => 93 | 48 => 94 | 49 => 95 | 50 => 96 | 57 => 100 | n => n, fun | 22 => 79 | 24 => 84 | 25 => 101 | 3 => 3 | 39 => 118 | 0 => 0 | 53 => 129 | 55 => 62 | 4 => 4 | 46 => 122 | 45 => 121 | 50 => 126 | 5 => 5 | 9 => 9 | 66 => 136 | 70 => 140 | 76 => 144 | 77 => 145 | n => n, fun | n => n⟩
theorem Try.sortPc : Go.Proofs.SlLaysF0.n6 Try.prog Try.sortPc_ren := {
  mixed := by kernel_rfl,
  f6 := ⟨Try.f60.name, by decide, Try.func60.trans (congrArg some (by kernel_rfl))⟩,
  f14 := ⟨Try.f70.name, by decide, Try.func70.trans (congrArg some (by kernel_rfl))⟩,
  f15 := Try.func71.trans (congrArg some (by kernel_rfl)),
  f20 := ⟨Try.f74.name, by decide, Try.func74.trans (congrArg some (by kernel_rfl))⟩,
  f21 := ⟨Try.f75.name, by decide, Try.func75.trans (congrArg some (by kernel_rfl))⟩,
  f22 := ⟨Try.f76.name, by decide, Try.func76.trans (congrArg some (by kernel_rfl))⟩,
  f23 := ⟨Try.f77.name, by decide, Try.func77.trans (congrArg some (by kernel_rfl))⟩,
  f24 := ⟨Try.f78.name, by decide, Try.func78.trans (congrArg some (by kernel_rfl))⟩,
  f25 := ⟨Try.f79.name, by decide, Try.func79.trans (congrArg some (by kernel_rfl))⟩,
  f26 := ⟨Try.f80.name, by decide, Try.func80.trans (congrArg some (by kernel_rfl))⟩,
  f27 := ⟨Try.f81.name, by decide, Try.func81.trans (congrArg some (by kernel_rfl))⟩,
  f28 := Try.func82.trans (congrArg some (by kernel_rfl)),
  f29 := Try.func83.trans (congrArg some (by kernel_rfl)),
  f46 := ⟨Try.f92.name, by decide, Try.func92.trans (congrArg some (by kernel_rfl))⟩,
  f47 := Try.func93.trans (congrArg some (by kernel_rfl)),
  f48 := Try.func94.trans (congrArg some (by kernel_rfl)),
  f49 := ⟨Try.f95.name, by decide, Try.func95.trans (congrArg some (by kernel_rfl))⟩,
  f50 := ⟨Try.f96.name, by decide, Try.func96.trans (congrArg some (by kernel_rfl))⟩,
  f57 := ⟨Try.f100.name, by decide, Try.func100.trans (congrArg some (by kernel_rfl))⟩,
  t0 := Try.underlying0,
  a0 := Try.isAgg0,
  z0 := Try.sizeOf0,
  v0 := Try.zeroValue0,
  t3 := Try.underlying3,
  a3 := Try.isAgg3,
  z3 := Try.sizeOf3,
  v3 := Try.zeroValue3,
  t4 := Try.underlying4,
  a4 := Try.isAgg4,
  z4 := Try.sizeOf4,
  v4 := Try.zeroValue4,
  t5 := Try.underlying5,
  a5 := Try.isAgg5,
  z5 := Try.sizeOf5,
  v5 := Try.zeroValue5,
  t9 := Try.underlying9,
  a9 := Try.isAgg9,
  z9 := Try.sizeOf9,
  v9 := Try.zeroValue9,
  t22 := Try.underlying79,
  a22 := Try.isAgg79,
  z22 := Try.sizeOf79,
  v22 := Try.zeroValue79,
  t25 := Try.underlying101,
  a25 := Try.isAgg101,
  z25 := Try.sizeOf101,
  v25 := Try.zeroValue101,
  t39 := Try.underlying118,
  a39 := Try.isAgg118,
  z39 := Try.sizeOf118,
  v39 := Try.zeroValue118,
  t45 := Try.underlying121,
  a45 := Try.isAgg121,
  z45 := Try.sizeOf121,
  v45 := Try.zeroValue121,
  t46 := Try.underlying122,
  a46 := Try.isAgg122,
  z46 := Try.sizeOf122,
  v46 := Try.zeroValue122,
  t50 := Try.underlying126,
  a50 := Try.isAgg126,
  z50 := Try.sizeOf126,
  v50 := Try.zeroValue126,
  t53 := Try.underlying129,
  a53 := Try.isAgg129,
  z53 := Try.sizeOf129,
  v53 := Try.zeroValue129,
  t55 := Try.underlying62,
  a55 := Try.isAgg62,
  z55 := Try.sizeOf62,
  v55 := Try.zeroValue62,
  t66 := Try.underlying136,
  a66 := Try.isAgg136,
  z66 := Try.sizeOf136,
  v66 := Try.zeroValue136,
  t70 := Try.underlying140,
  a70 := Try.isAgg140,
  z70 := Try.sizeOf140,
  v70 := Try.zeroValue140,
  t76 := Try.underlying144,
  a76 := Try.isAgg144,
  z76 := Try.sizeOf144,
  v76 := Try.zeroValue144,
  t77 := Try.underlying145,
  a77 := Try.isAgg145,
  z77 := Try.sizeOf145,
  v77 := Try.zeroValue145 }

end Go.Proofs
namespace Go.Sx
open Go Go.Proofs Go.Sort
set_option maxRecDepth 10000
/-- A piece, and where its bytes lie. -/
structure Pc where
  put : Bool
  ka : Option Addr
  kc : Nat
  key : Bs
  va : Option Addr
  vc : Nat
  v : Bs
  g : Rg
def Pc.cells (p : Pc) : List Value := [.bool p.put, .slice p.ka p.key.length p.kc, .slice p.va p.v.length p.vc, .slice p.g.la p.g.lo.length p.g.lc, .slice p.g.ha p.g.hi.length p.g.hc, .bool p.g.all]
abbrev Pc.d (p : Pc) : PD := ⟨p.put, p.key, p.v, p.g.d⟩
abbrev pc0 : Pc := ⟨false, none, 0, [], none, 0, [], rg0⟩
instance celPc : Cel Pc := ⟨6, fun p => p.cells, fun _ => rfl, fun _ => rfl, by decide⟩
instance : ElT Try.prog 84 Pc := ⟨trivial⟩
def Pc.aa (p : Pc) : Option Addr := if p.put = true then p.ka else p.g.la
def Pc.ac (p : Pc) : Nat := if p.put = true then p.kc else p.g.lc
section
variable {M : Mode} {P : Program} {n : Nat} {ds : Dx} {ops : Array Oper} {Q : Exit → Act → World → Prop} {b : Bool} {rest : Tr} {l : List (Nat × Value)} {w : World}
variable {ty : TypeId} {pos : String} {af : Array Edge} {g : Option (Nat × Bool)}
/-- A call of a function value, of a world. -/
theorem l_callX {d : Nat} {k : FuncId} {x : Operand} {xs : List Operand} {ts : Array TypeId} {cap args : List Value} {R : Value → World → Prop} [hf' : FnT P k] (hc : ev l x = some (.func (.func k) #[] cap.toArray)) (ha : evs l xs = some args) (hf : Fn P k (args ++ cap).toArray w R)
    (h : ∀ v w', R v w' → M.chk w' ∧ LJ M P n ds ops Q rest ((d, v) :: l) w') (hb : (M.any || !b) = true) (hg : gOk ops l g = true) (hd : Nat.blt d n = true) :
    LJ M P n ds ops Q (.one b ⟨some d, .call { callee := .value x, args := xs.toArray, argTypes := ts }, ty, pos, af, g⟩ rest) l w := .mk fun a hfr => by
  unfold WL
  rw [if_pos (gOk_spec hg hfr)]
  refine .inr ⟨by simpa using hb, ?_⟩
  have hargs := evs_map hfr.agr ha
  have : (execOp a.eval ⟨some d, .call { callee := .value x, args := xs.toArray, argTypes := ts }, ty, pos, af, g⟩).run P w = .ok (.enter k (args ++ cap).toArray) w := by
    simp [execOp, resolve, hfr.agr _ _ hc, Deferred.ofValue, invoke, hargs, hf'.run]
  refine op_enter this hf ?_
  rintro e w' ⟨v, rfl, h1⟩
  exact ⟨(h v w' h1).1, ((h v w' h1).2).out _ (hfr.put v hd)⟩
end
theorem at_x (w : World) (x : Pc) : Fn Try.prog 59 #[.agg x.cells.toArray] w (fun v w' => v = .slice x.aa (atP x.d).length x.ac ∧ w' = w.alloc (.cells x.cells.toArray 84)) := by
  refine fn_enter Try.func59 rfl rfl rfl ?_
  obtain ⟨put, ka, kc, key, va, vc, v, g⟩ := x
  refine sxo ?_
  refine l_boxX rfl rfl rfl rfl trivial ?_
  have hN := New.mk' w 84 (Pc.cells ⟨put, ka, kc, key, va, vc, v, g⟩)
  have hb1 := hN.hb
  refine sxo ?_
  cases put
  · refine sxo ?_
    refine l_rw (t := 8) (v' := .pointer (some ((⟨w.heap.size, 0, none⟩ : Addr).add 3))) rfl rfl ?_
    refine sxo ?_
    exact q_ret1 rfl rfl ⟨rfl, rfl⟩
  · refine sxo ?_
    exact q_ret1 rfl rfl ⟨rfl, rfl⟩
theorem grow_drew (w : World) (os : Array Obj) (q : Nat) : (Sort.grow w os).drewN q = Sort.grow (w.drewN q) os := rfl
theorem drewN_add (w : World) (a : Nat) : ∀ q, (w.drewN a).drewN q = w.drewN (a + q)
  | 0 => rfl
  | q + 1 => by
    show ((w.drewN a).drewN q).drew = (w.drewN (a + q)).drew
    rw [drewN_add w a q]
theorem ex_grow (w : World) (os : Array Obj) : Ex w (Sort.grow w os) := by
  refine ⟨rfl, rfl, rfl, ?_, fun k hk _ => ?_⟩
  · simp [Sort.grow]
  · unfold Sort.grow
    rw [Array.getElem?_append_left hk]
theorem less_x (w : World) (x y : Pc) (bk : Nat) (hf : HB w bk 99 [.func (.func 59) #[] #[]]) (hx : By w x.aa x.ac (atP x.d)) (hy : By w y.aa y.ac (atP y.d)) :
    Fn Try.prog 61 #[.agg x.cells.toArray, .agg y.cells.toArray, .pointer (some ⟨bk, 0, none⟩)] w (fun v w' => v = .int .i64 (cmp (atP x.d) (atP y.d)) ∧ ∃ q os', w' = Sort.grow (w.drewN q) os') := by
  refine fn_enter Try.func61 rfl rfl rfl ?_
  refine sxo ?_
  refine l_boxX rfl rfl rfl rfl trivial ?_
  refine l_boxX rfl rfl rfl rfl trivial ?_
  have hN1 := New.mk' w 84 x.cells
  have hN2 := New.mk' (w.alloc (.cells x.cells.toArray 84)) 84 y.cells
  have hb1 := hN1.hb.ex hN2.ex
  have hb2 := hN2.hb
  have hx2 := (hx.ex hN1.ex).ex hN2.ex
  have hy2 := (hy.ex hN1.ex).ex hN2.ex
  have hf2 := (hf.ex hN1.ex).ex hN2.ex
  generalize hW : ((w.alloc (.cells x.cells.toArray 84)).alloc (.cells y.cells.toArray 84)) = W at hb1 hb2 hx2 hy2 hf2 ⊢
  refine sxo ?_
  refine c_draw (fun w' => ∃ q os, w' = Sort.grow (W.drewN q) os) (.one true 0 (.one true 1 (.one true 3 (.one true 4 (.one false 2 (.one false 5 (.one false 6 (.one true 7 .nil)))))))) mixed (by kernel_rfl) ⟨1, #[], by simp [Sort.grow]; rfl⟩ ?_
  have gh : ∀ {b : Nat} {T : TypeId} {vs : List Value}, HB W b T vs → ∀ w', (∃ q os, w' = Sort.grow (W.drewN q) os) → HB w' b T vs := by
    rintro b T vs h w' ⟨q, os, rfl⟩
    exact (h.ex (ex_drewN W q)).grow os
  have gb : ∀ {a : Option Addr} {c : Nat} {xs : Bs}, By W a c xs → ∀ w', (∃ q os, w' = Sort.grow (W.drewN q) os) → By w' a c xs := by
    rintro a c xs h w' ⟨q, os, rfl⟩
    exact (h.ex (ex_drewN W q)).ex (ex_grow _ os)
  refine l_y rfl rfl (y_load rfl fun w' hw => (gh hf2 w' hw).cell0 rfl) ?_
  refine l_y rfl rfl (y_loadA rfl (fun w' hw => (gh hb1 w' hw).cells) rfl) ?_
  refine l_y rfl rfl (y_load rfl fun w' hw => (gh hf2 w' hw).cell0 rfl) ?_
  refine l_y rfl rfl (y_loadA rfl (fun w' hw => (gh hb2 w' hw).cells) rfl) ?_
  refine l_callX rfl rfl (at_x _ x) ?_ rfl rfl rfl
  rintro _ _ ⟨rfl, rfl⟩
  refine ⟨⟨1, #[.cells x.cells.toArray 84], by rw [alloc_eq_grow]; rfl⟩, ?_⟩
  refine l_callX rfl rfl (at_x _ y) ?_ rfl rfl rfl
  rintro _ _ ⟨rfl, rfl⟩
  have e2 : (W.drew.alloc (.cells x.cells.toArray 84)).alloc (.cells y.cells.toArray 84) = Sort.grow (W.drewN 1) #[.cells x.cells.toArray 84, .cells y.cells.toArray 84] := by
    rw [alloc_eq_grow, alloc_eq_grow, grow_grow]; rfl
  refine ⟨⟨1, _, e2⟩, ?_⟩
  rw [e2]
  have k1 : By (Sort.grow (W.drewN 1) #[.cells x.cells.toArray 84, .cells y.cells.toArray 84]) x.aa x.ac (atP x.d) := gb hx2 _ ⟨1, _, rfl⟩
  have k2 : By (Sort.grow (W.drewN 1) #[.cells x.cells.toArray 84, .cells y.cells.toArray 84]) y.aa y.ac (atP y.d) := gb hy2 _ ⟨1, _, rfl⟩
  refine l_call rfl rfl rfl rfl (compare_x _ _ _ _ _ _ _ k1 k2) ?_
  rintro _ w2 ⟨rfl, q, rfl⟩
  refine ⟨⟨1 + q, _, by rw [grow_drew, drewN_add]⟩, ?_⟩
  refine sxo ?_
  refine q_ret1 rfl rfl ⟨rfl, 1 + q, #[.cells x.cells.toArray 84, .cells y.cells.toArray 84, .cells x.cells.toArray 84, .cells y.cells.toArray 84], ?_⟩
  rw [← hW, grow_drew, drewN_add, alloc_eq_grow, alloc_eq_grow, grow_grow, grow_drew, grow_grow]
  rfl
theorem sortP_go (w : World) (blk c bk : Nat) (rs : List Pc) (re : List Value) (G : Pc → Prop) (h0 : G pc0) (hr : ∀ r ∈ rs, G r) (hrd : ∀ W, Ext (fun i => i = blk) w W → ∀ r, G r → By W r.aa r.ac (atP r.d)) (hfw : ∀ W, Ext (fun i => i = blk) w W → HB W bk 99 [.func (.func 59) #[] #[]])
    (hB : HB w blk 84 (flat rs ++ re)) (hl : rs.length < 4611686018427387904) :
    Fn Try.prog 60 #[.slice (some ⟨blk, 0, none⟩) rs.length c, .func (.func 61) #[] #[.pointer (some ⟨bk, 0, none⟩)]] w (fun v w' => v = .tuple #[] ∧ ∃ rs', rs.Perm rs' ∧ rs'.Pairwise (fun x y => cmp (atP x.d) (atP y.d) ≤ 0) ∧ HB w' blk 84 (flat rs' ++ re) ∧ Ext (fun i => i = blk) w w') := by
  haveI : Inhabited {x : Pc // G x} := ⟨⟨pc0, h0⟩⟩
  let d : Array {x : Pc // G x} := (rs.pmap Subtype.mk hr).toArray
  have hdl : d.toList.map Subtype.val = rs := by simp [d, List.map_pmap]
  have hds : d.size = rs.length := by simp [d]
  have hF : (flatK (encS G) 6 d).toList = flat rs := by
    have := flatK_flat (G := G) d
    rw [hdl] at this
    exact this
  have hH : HoldsK (encS G) 6 w blk 0 d := by
    rw [← hF] at hB
    exact hB.holds
  let cf : {x : Pc // G x} → {x : Pc // G x} → Int := fun x y => cmp (atP x.1.d) (atP y.1.d)
  have hlt : ∀ x y, ltOf cf x y = decide (cmp (atP x.1.d) (atP y.1.d) < 0) := fun _ _ => rfl
  have hO : SWO (ltOf cf) := {
    irrefl := fun x => by rw [hlt, (cmp_eq (atP x.1.d) (atP x.1.d)).2 rfl]; rfl,
    trans := fun x y z h1 h2 => by
      rw [hlt, decide_eq_true_eq] at *
      exact (cmp_lt_trans (atP x.1.d) (atP y.1.d) (atP z.1.d) (by omega) (by omega)).2 (.inl h1),
    ntrans := fun x y z h1 h2 => by
      rw [hlt, decide_eq_false_iff_not] at *
      have a1 := cmp_anti (atP x.1.d) (atP y.1.d)
      have a2 := cmp_anti (atP y.1.d) (atP z.1.d)
      have a3 := cmp_anti (atP x.1.d) (atP z.1.d)
      have := (cmp_lt_trans (atP z.1.d) (atP y.1.d) (atP x.1.d) (by omega) (by omega)).1
      omega }
  have hcmp : CmpLays Try.prog 61 #[.pointer (some ⟨bk, 0, none⟩)] (encS G) 6 cf blk 0 d.size w := fun m os dk hs x y => by
    have hX := putRow_ext w blk m (flatK (encS G) 6 dk) os
    have h := less_x (sortWorldK (encS G) 6 w blk 0 m dk os) x.1 y.1 bk (hfw _ hX) (hrd _ hX x.1 x.2) (hrd _ hX y.1 y.2)
    refine Calls.mono h ?_
    rintro e w' ⟨v, he, rfl, q, os', hw⟩
    exact ⟨he, q, os', hw⟩
  have hcon := AnyQ.slices_SortFunc Try.sortPc 6 (fun w => AgT.agg (T := 84) w) (fun w => AgT.size (T := 84) w) (encS G) (fun x => Cel.len x.1) (fun x v hv => List.all_eq_true.1 (Cel.one x.1) v hv) cf hO 61 #[.pointer (some ⟨bk, 0, none⟩)] blk 0 c d w (fun args w => FnT.run args w) hcmp hH hB.lt (by rw [hds]; exact hl)
  rw [hds] at hcon
  refine Calls.mono hcon ?_
  rintro e w' ⟨he, d', n, os, hp, hs, rfl⟩
  have hp2 := perm_list (by rw [hds]; exact hp)
  have hsz : d'.size = rs.length := by have := hp2.length_eq; simp at this; omega
  refine ⟨_, he, rfl, d'.toList.map Subtype.val, ?_, ?_, ?_, putRow_ext w blk n (flatK (encS G) 6 d') os⟩
  · rw [← hdl]
    exact hp2.map _
  · rw [List.pairwise_map, List.pairwise_iff_getElem]
    intro i j hi hj hij
    have h := hs i j (Nat.zero_le _) hij (by simpa [hsz] using hj)
    rw [hlt, decide_eq_false_iff_not] at h
    have hi' : i < d'.size := by simpa using hi
    have hj' : j < d'.size := by simpa using hj
    rw [getElem!_pos d' i hi', getElem!_pos d' j hj'] at h
    have := cmp_anti (atP (d'[j]'hj').1.d) (atP (d'[i]'hi').1.d)
    simp only [Array.getElem_toList]
    omega
  · have hF2 := flatK_flat (G := G) d'
    rw [← hF2]
    refine HB.grow ?_ os
    exact HB.putRow (HB.ahead hB n) (flatK (encS G) 6 d') (by rw [size_flatK, hsz, flat_length]; rfl)
variable {w0 : World} {H : List Ck}
theorem sortP_s {a : Option Addr} {c bk : Nat} {rs : List Pc} (hl : rs.length < 4611686018427387904) (hr : ∀ r ∈ rs, RBy w0 H r.aa r.ac (atP r.d)) (hF : ∀ w, Sat w0 H w → HB w bk 99 [.func (.func 59) #[] #[]]) :
    FnS Try.prog w0 (ol 84 a c rs :: H) 60 #[.slice a rs.length c, .func (.func 61) #[] #[.pointer (some ⟨bk, 0, none⟩)]] (fun v H' => v = .tuple #[] ∧ ∃ rs', rs.Perm rs' ∧ rs'.Pairwise (fun x y => cmp (atP x.d) (atP y.d) ≤ 0) ∧ H' = ol 84 a c rs' :: H) := fun w hw => by
  have ho := Sat.ownOf (c' := ol 84 a c rs) .hd hw
  rcases ho.open with ⟨rfl, h0, rfl, _⟩ | ⟨blk, re, rfl, h1, h2, h3, h4, h5⟩
  · have e0 : rs = [] := List.eq_nil_of_length_eq_zero h0
    subst e0
    refine Calls.mono (AnyF.slices_SortFunc_none Try.sortPc none 0 (.func (.func 61) #[] #[.pointer (some ⟨bk, 0, none⟩)]) w) ?_
    rintro e w' ⟨he, rfl⟩
    exact ⟨_, he, _, ⟨rfl, [], .refl _, .nil, rfl⟩, hw⟩
  · have hcl : ∀ W, Ext (fun i => i = blk) w W → Sat w0 H W := fun W hX => by
      refine Sat.tl (c := .star []) (hw.upd (c' := .star []) fun S hS hc => ⟨hX.mono fun i _ e => by subst e; exact hc.2 _ rfl, fun _ => False, trivial, fun b hb => hb.elim⟩)
    refine Calls.mono (sortP_go w blk c bk rs re (fun r => RBy w0 H r.aa r.ac (atP r.d)) RBy.nil hr (fun W hX r h => h W (hcl W hX)) (fun W hX => hF W (hcl W hX)) h2 hl) ?_
    · rintro e w' ⟨v, he, rfl, rs', hp, hs, hB, hX⟩
      refine ⟨_, he, _, ⟨rfl, rs', hp, hs, rfl⟩, ?_⟩
      have hlen := hp.length_eq
      have hO : Own w' w0.heap.size 84 6 (some ⟨blk, 0, none⟩) rs'.length c (flat rs') := Own.mk' h1 hB (flat_length rs') (by omega) h4 (by
        have e1 : (flat rs').length = (flat rs).length := by rw [flat_length, flat_length, hlen]
        rw [e1]; exact h5)
      exact hw.own (ha := .hd) hO (hX.mono fun i _ e => by rw [e]; rfl) (fun ad' e => by cases e; exact .inl rfl)
end Go.Sx
