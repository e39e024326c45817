/- Part of a proof: several parts of a walk, one behind the other. -/
import Derived.Test.YtpnhoafmlhlfgaaCO2j
import Derived.Test.YtpnhoafmlhlfgaaCKB
import Derived.Shelf.SlSortCmp.WholeK
import Derived.Test.YtpnhoafmlhlfgaaCMMj
namespace Go.Proofs
open Go.Shelf Go.RowKit Go.Lib Go.Sort
def Try.sortRg_ren : Go.Shelf.Ren := ⟨fun | 6 => 67 | 15 => 71 | 14 => 73 | 28 => 82 | 29 => 83 | 20 => 84 | 21 => 85 | 22 => 86 | 23 => 87 | 24 => 88 | 25 => 89 | 26 => 90 | 27 => 91 | 46 => 97 | 47 => 93 | 48 => 94 | 49 => 98 | 50 => 99 | 57 => 101 | n => n, fun | 22 => 89 | 24 => 82 | 25 => 114 | 3 => 3 | 39 => 118 | 0 => 0 | 53 => 129 | 55 => 62 | 4 => 4 | 46 => 122 | 45 => 121 | 50 => 126 | 5 => 5 | 9 => 9 | 66 => 136 | 70 => 140 | 76 => 144 | 77 => 145 | n => n, fun | n => n⟩
theorem Try.sortRg : Go.Proofs.SlLaysF0.n6 Try.prog Try.sortRg_ren := {
  mixed := by kernel_rfl,
  f6 := ⟨Try.f67.name, by decide, Try.func67.trans (congrArg some (by kernel_rfl))⟩,
  f14 := ⟨Try.f73.name, by decide, Try.func73.trans (congrArg some (by kernel_rfl))⟩,
  f15 := Try.func71.trans (congrArg some (by kernel_rfl)),
  f20 := ⟨Try.f84.name, by decide, Try.func84.trans (congrArg some (by kernel_rfl))⟩,
  f21 := ⟨Try.f85.name, by decide, Try.func85.trans (congrArg some (by kernel_rfl))⟩,
  f22 := ⟨Try.f86.name, by decide, Try.func86.trans (congrArg some (by kernel_rfl))⟩,
  f23 := ⟨Try.f87.name, by decide, Try.func87.trans (congrArg some (by kernel_rfl))⟩,
  f24 := ⟨Try.f88.name, by decide, Try.func88.trans (congrArg some (by kernel_rfl))⟩,
  f25 := ⟨Try.f89.name, by decide, Try.func89.trans (congrArg some (by kernel_rfl))⟩,
  f26 := ⟨Try.f90.name, by decide, Try.func90.trans (congrArg some (by kernel_rfl))⟩,
  f27 := ⟨Try.f91.name, by decide, Try.func91.trans (congrArg some (by kernel_rfl))⟩,
  f28 := Try.func82.trans (congrArg some (by kernel_rfl)),
  f29 := Try.func83.trans (congrArg some (by kernel_rfl)),
  f46 := ⟨Try.f97.name, by decide, Try.func97.trans (congrArg some (by kernel_rfl))⟩,
  f47 := Try.func93.trans (congrArg some (by kernel_rfl)),
  f48 := Try.func94.trans (congrArg some (by kernel_rfl)),
  f49 := ⟨Try.f98.name, by decide, Try.func98.trans (congrArg some (by kernel_rfl))⟩,
  f50 := ⟨Try.f99.name, by decide, Try.func99.trans (congrArg some (by kernel_rfl))⟩,
  f57 := ⟨Try.f101.name, by decide, Try.func101.trans (congrArg some (by kernel_rfl))⟩,
  t0 := Try.underlying0,
  a0 := Try.isAgg0,
  z0 := Try.sizeOf0,
  v0 := Try.zeroValue0,
  t3 := Try.underlying3,
  a3 := Try.isAgg3,
  z3 := Try.sizeOf3,
  v3 := Try.zeroValue3,
  t4 := Try.underlying4,
  a4 := Try.isAgg4,
  z4 := Try.sizeOf4,
  v4 := Try.zeroValue4,
  t5 := Try.underlying5,
  a5 := Try.isAgg5,
  z5 := Try.sizeOf5,
  v5 := Try.zeroValue5,
  t9 := Try.underlying9,
  a9 := Try.isAgg9,
  z9 := Try.sizeOf9,
  v9 := Try.zeroValue9,
  t22 := Try.underlying89,
  a22 := Try.isAgg89,
  z22 := Try.sizeOf89,
  v22 := Try.zeroValue89,
  t25 := Try.underlying114,
  a25 := Try.isAgg114,
  z25 := Try.sizeOf114,
  v25 := Try.zeroValue114,
  t39 := Try.underlying118,
  a39 := Try.isAgg118,
  z39 := Try.sizeOf118,
  v39 := Try.zeroValue118,
  t45 := Try.underlying121,
  a45 := Try.isAgg121,
  z45 := Try.sizeOf121,
  v45 := Try.zeroValue121,
  t46 := Try.underlying122,
  a46 := Try.isAgg122,
  z46 := Try.sizeOf122,
  v46 := Try.zeroValue122,
  t50 := Try.underlying126,
  a50 := Try.isAgg126,
  z50 := Try.sizeOf126,
  v50 := Try.zeroValue126,
  t53 := Try.underlying129,
  a53 := Try.isAgg129,
  z53 := Try.sizeOf129,
  v53 := Try.zeroValue129,
  t55 := Try.underlying62,
  a55 := Try.isAgg62,
  z55 := Try.sizeOf62,
  v55 := Try.zeroValue62,
  t66 := Try.underlying136,
  a66 := Try.isAgg136,
  z66 := Try.sizeOf136,
  v66 := Try.zeroValue136,
  t70 := Try.underlying140,
  a70 := Try.isAgg140,
  z70 := Try.sizeOf140,
  v70 := Try.zeroValue140,
  t76 := Try.underlying144,
  a76 := Try.isAgg144,
  z76 := Try.sizeOf144,
  v76 := Try.zeroValue144,
  t77 := Try.underlying145,
  a77 := Try.isAgg145,
  z77 := Try.sizeOf145,
  v77 := Try.zeroValue145 }

end Go.Proofs
namespace Go.Sx
open Go Go.Proofs
set_option maxRecDepth 10000
theorem ex_drewN (w : World) (q : Nat) : Ex w (w.drewN q) := ⟨rfl, rfl, rfl, Nat.le_refl _, fun _ _ _ => rfl⟩
theorem common_x (w : World) (a a' : Option Addr) (c c' : Nat) (xs ys : List UInt8) (ha : By w a c xs) (hb : By w a' c' ys) :
    Fn Try.prog 36 #[.slice a xs.length c, .slice a' ys.length c'] w (fun v w' => v = .int .i64 (common xs ys) ∧ ∃ q, w' = w.drewN q) := by
  have l1 := ha.len
  have l2 := hb.len
  refine fn_enter Try.func36 rfl rfl rfl ?_
  refine sxo ?_
  refine c_loop (fun k : Nat => [(0, .slice a xs.length c), (1, .slice a' ys.length c'), (5, .int .i64 ((min xs.length ys.length : Nat) : Int)), (12, .int .i64 ((min xs.length ys.length : Nat) : Int)), (13, .int .i64 k)])
    (fun k w1 => (∃ q, w1 = w.drewN q) ∧ k ≤ xs.length ∧ k ≤ ys.length ∧ ∀ i, i < k → xs.getD i 0 = ys.getD i 0) (fun k => xs.length - k) 0 (by exact ⟨rfl, rfl, rfl, rfl, rfl, trivial⟩) ⟨⟨0, rfl⟩, Nat.zero_le _, Nat.zero_le _, fun i hi => absurd hi (by omega)⟩ ?_
  rintro k w1 ⟨⟨q, rfl⟩, hk1, hk2, hk⟩
  refine sxo ?_
  refine c_if rfl (fun hlt => ?_) (fun hge => ?_)
  · obtain ⟨ad, rfl⟩ := ha.some (by omega)
    obtain ⟨ad', rfl⟩ := hb.some (by omega)
    have ha1 : By (w.drewN q).drew (some ad) c xs := ha.ex (ex_drewN w (q + 1))
    have hb1 : By (w.drewN q).drew (some ad') c' ys := hb.ex (ex_drewN w (q + 1))
    refine sxo ?_
    refine c_draw (fun w' => w' = (w.drewN q).drew) (.one true 0 (.one true 1 (.one true 2 (.one true 3 (.one true 4 (.one true 5 (.one true 6 (.one true 7 (.one true 8 .nil))))))))) mixed (by kernel_rfl) rfl ?_
    refine sxo ?_
    refine c_ifn rfl (fun hne => ?_) (fun heq => ?_)
    · refine sxo ?_
      refine q_ret1 rfl rfl ⟨?_, q + 1, rfl⟩
      rw [common_eq xs ys k (by omega) (by omega) hk (.inr (.inr hne))]
    · refine sxo ?_
      refine q_again (k + 1) ⟨rfl, rfl, rfl, rfl, rfl, trivial⟩ ⟨⟨q + 1, rfl⟩, by omega, by omega, fun i hi => ?_⟩ (by omega)
      rcases Nat.lt_or_eq_of_le (Nat.lt_succ_iff.1 hi) with h | rfl
      · exact hk i h
      · exact heq
  · refine sxo ?_
    refine q_ret1 rfl rfl ⟨?_, q, rfl⟩
    rw [common_eq xs ys (min xs.length ys.length) (by omega) (by omega) (fun i hi => hk i (by omega)) (by omega)]
theorem compare_x (w : World) (a a' : Option Addr) (c c' : Nat) (xs ys : List UInt8) (ha : By w a c xs) (hb : By w a' c' ys) :
    Fn Try.prog 12 #[.slice a xs.length c, .slice a' ys.length c'] w (fun v w' => v = .int .i64 (cmp xs ys) ∧ ∃ q, w' = w.drewN q) := by
  have l1 := ha.len
  have l2 := hb.len
  have hcl := common_le xs ys
  refine fn_enter Try.func12 rfl rfl rfl ?_
  refine sxo ?_
  refine l_call rfl rfl rfl rfl (common_x w a a' c c' xs ys ha hb) ?_
  rintro _ w2 ⟨rfl, q, rfl⟩
  refine ⟨trivial, ?_⟩
  have ha2 : By (w.drewN q).drew a c xs := ha.ex (ex_drewN w (q + 1))
  have hb2 : By (w.drewN q).drew a' c' ys := hb.ex (ex_drewN w (q + 1))
  refine sxo ?_
  have hc := cmp_common xs ys
  refine l_if rfl (fun h1 => ?_) (fun h1 => ?_)
  · have h1' : common xs ys = xs.length := by omega
    refine sxo ?_
    refine c_if rfl (fun h2 => ?_) (fun h2 => ?_)
    · have h2' : common xs ys = ys.length := by omega
      refine sxo ?_
      exact q_ret1 rfl rfl ⟨by rw [hc, if_pos ⟨h1', h2'⟩], q, rfl⟩
    · refine sxo ?_
      refine c_if rfl (fun _ => ?_) (fun h3 => absurd h1 h3)
      refine sxo ?_
      exact q_ret1 rfl rfl ⟨by rw [hc, if_neg (by omega), if_pos h1'], q, rfl⟩
  · have h1' : ¬ common xs ys = xs.length := by omega
    refine sxo ?_
    refine c_if rfl (fun h3 => absurd h3 h1) (fun _ => ?_)
    refine sxo ?_
    refine c_draw (fun w' => w' = (w.drewN q).drew) (.one true 0 (.one true 1 (.one true 2 (.one true 3 (.one true 4 (.one true 5 (.one true 6 (.one true 7 (.one true 8 (.one true 9 (.one true 10 (.one true 11 (.one true 12 (.one true 13 (.one true 14 (.one true 15 .nil)))))))))))))))) mixed (by kernel_rfl) rfl ?_
    refine sxo ?_
    refine l_if rfl (fun h2 => ?_) (fun h2 => ?_)
    · refine sxo ?_
      exact q_ret1 rfl rfl ⟨by rw [hc, if_neg (by omega), if_neg h1', if_pos (.inl (by omega))], q + 1, rfl⟩
    · obtain ⟨ad, rfl⟩ := ha.some (by omega)
      obtain ⟨ad', rfl⟩ := hb.some (by omega)
      refine sxo ?_
      refine c_if rfl (fun h4 => ?_) (fun h4 => ?_)
      · refine sxo ?_
        exact q_ret1 rfl rfl ⟨by rw [hc, if_neg (by omega), if_neg h1', if_pos (.inr h4)], q + 1, rfl⟩
      · refine sxo ?_
        exact q_ret1 rfl rfl ⟨by rw [hc, if_neg (by omega), if_neg h1', if_neg (by rintro (h | h); omega; exact h4 h)], q + 1, rfl⟩
end Go.Sx
namespace Go.Sx
open Go Go.Proofs Go.Sort
set_option maxRecDepth 10000
section
variable {β : Type} [Cel β] {G : β → Prop} [Inhabited {x : β // G x}]
abbrev encS (G : β → Prop) : {x : β // G x} → List Value := fun x => Cel.f x.1
theorem flatK_flat (d : Array {x : β // G x}) : (flatK (encS G) (Cel.sz β) d).toList = flat (d.toList.map Subtype.val) := by
  have hp := Cel.pos (α := β)
  apply List.ext_getElem?
  intro j
  by_cases hj : j < d.size * Cel.sz β
  · have h1 : j / Cel.sz β < d.size := (Nat.div_lt_iff_lt_mul hp).2 hj
    have h2 : j % Cel.sz β < Cel.sz β := Nat.mod_lt _ hp
    have h3 : (Cel.f (d[j / Cel.sz β]!).1)[j % Cel.sz β]? = some ((Cel.f (d[j / Cel.sz β]!).1)[j % Cel.sz β]'(by rw [Cel.len]; exact h2)) := List.getElem?_eq_getElem _
    have h4 := flat_at (d.toList.map Subtype.val) (j / Cel.sz β) (d[j / Cel.sz β]!).1 (j % Cel.sz β) _ (by simp [h1]) h3
    rw [Nat.div_add_mod' j (Cel.sz β)] at h4
    rw [h4]
    have h5 := get_flatK (encS G) (Cel.sz β) d j hj
    have h6 : j < (flatK (encS G) (Cel.sz β) d).size := by simpa using hj
    rw [Array.getElem?_toList, Array.getElem?_eq_getElem h6, ← getElem!_pos _ j h6, h5]
    rw [getElem!_pos _ _ (by rw [Cel.len]; exact h2)]
  · rw [List.getElem?_eq_none (by simp; omega), List.getElem?_eq_none (by rw [flat_length]; simp; omega)]
end
theorem HB.holds {w : World} {b : Nat} {E : TypeId} {F : Array Value} {re : List Value} (h : HB w b E (F.toList ++ re)) : Holds id w b 0 F := fun j hj => by
  unfold HB at h
  have h1 : (F.toList ++ re)[j]? = some F[j] := by
    rw [List.getElem?_append_left (by simpa using hj)]
    simp [hj]
  constructor
  · rw [Nat.zero_add]
    have h2 : (F.toList ++ re).toArray[j]? = some F[j] := by simpa using h1
    simp only [World.cell?, h]
    rw [h2, getElem!_pos F j hj]
    rfl
  · simp [World.frozen?, h]
theorem HB.putRow {w : World} {b : Nat} {E : TypeId} {xs re : List Value} (h : HB w b E (xs ++ re)) (F : Array Value) (hF : F.size = xs.length) : HB (Sort.putRow id w b 0 F) b E (F.toList ++ re) := by
  unfold HB at h ⊢
  unfold Sort.putRow mapBlock
  have hlt : b < w.heap.size := (Array.getElem?_eq_some_iff.1 h).1
  simp only [Array.getElem?_modify, if_true, h, Option.map_some, onCells]
  congr 2
  apply Array.ext_getElem?
  intro j
  simp only [putCells, Array.getElem?_mapIdx, List.getElem?_toArray]
  by_cases hj : j < F.size
  · rw [List.getElem?_append_left (by omega), List.getElem?_append_left (by simpa using hj)]
    rw [List.getElem?_eq_getElem (by omega)]
    simp [hj]
  · rw [List.getElem?_append_right (by omega), List.getElem?_append_right (by simpa using hj)]
    have e : (F.toList).length = xs.length := by simpa using hF
    rw [e]
    cases (re[j - xs.length]?) with
    | none => rfl
    | some v => simp; omega
theorem putRow_ext (w : World) (b m : Nat) (F : Array Value) (os : Array Obj) : Ext (fun i => i = b) w (grow (Sort.putRow id (Sort.ahead w m) b 0 F) os) := by
  refine ⟨rfl, rfl, rfl, ?_, fun k hk hn => ?_⟩
  · simp [grow, Sort.putRow, mapBlock]
  · unfold grow Sort.putRow mapBlock
    rw [Array.getElem?_append_left (by simpa using hk)]
    rw [Array.getElem?_modify, if_neg (fun e => hn e.symm)]
    rfl
theorem HB.grow {w : World} {b : Nat} {E : TypeId} {xs : List Value} (h : HB w b E xs) (os : Array Obj) : HB (Sort.grow w os) b E xs := by
  unfold HB at h ⊢
  unfold Sort.grow
  rw [Array.getElem?_append_left (Array.getElem?_eq_some_iff.1 h).1]
  exact h
theorem HB.ahead {w : World} {b : Nat} {E : TypeId} {xs : List Value} (h : HB w b E xs) (m : Nat) : HB (Sort.ahead w m) b E xs := h
end Go.Sx
namespace Go.Sx
open Go Go.Proofs Go.Sort
set_option maxRecDepth 10000
section
variable {M : Mode} {P : Program} {n : Nat} {ds : Dx} {ops : Array Oper} {Q : Exit → Act → World → Prop} {b : Bool} {rest : Tr} {l : List (Nat × Value)} {w : World}
variable {ty : TypeId} {pos : String} {af : Array Edge} {g : Option (Nat × Bool)}
/-- A struct is laid into a new variable: just what the world is then. -/
theorem l_boxX {d : Nat} {T : TypeId} {x : Operand} {cs : List Value} (hb : (M.any || !b) = true) (hg : gOk ops l g = true) (hd : Nat.blt d n = true) (hx : ev l x = some (.agg cs.toArray))
    (hc : M.chk (w.alloc (.cells cs.toArray T))) (h : LJ M P n ds ops Q rest ((d, .pointer (some ⟨w.heap.size, 0, none⟩)) :: l) (w.alloc (.cells cs.toArray T))) :
    LJ M P n ds ops Q (.one b ⟨some d, .box T x, ty, pos, af, g⟩ rest) l w := by
  refine l_e hb hg hd (v := .pointer (some ⟨w.heap.size, 0, none⟩)) (fun ρ hρ => ?_) hc h
  simp [execOp, hρ _ _ hx, Instr.box, newVar, newRow, Value.cells]
end
theorem cover1_x (w : World) (x y : Rg) (hx : By w x.la x.lc x.lo) (hy : By w y.la y.lc y.lo) :
    Fn Try.prog 68 #[.agg x.cells.toArray, .agg y.cells.toArray] w (fun v w' => v = .int .i64 (cmp x.lo y.lo) ∧ ∃ q os', w' = Sort.grow (w.drewN q) os') := by
  refine fn_enter Try.func68 rfl rfl rfl ?_
  refine sxo ?_
  refine l_boxX rfl rfl rfl rfl trivial ?_
  refine l_boxX rfl rfl rfl rfl trivial ?_
  have hN1 := New.mk' w 82 x.cells
  have hN2 := New.mk' (w.alloc (.cells x.cells.toArray 82)) 82 y.cells
  have hb1 := hN1.hb.ex hN2.ex
  have hb2 := hN2.hb
  have hx2 := (hx.ex hN1.ex).ex hN2.ex
  have hy2 := (hy.ex hN1.ex).ex hN2.ex
  refine sxo ?_
  refine l_call rfl rfl rfl rfl (compare_x _ _ _ _ _ _ _ hx2 hy2) ?_
  rintro _ w2 ⟨rfl, q, rfl⟩
  refine ⟨trivial, ?_⟩
  refine sxo ?_
  refine q_ret1 rfl rfl ⟨rfl, q, #[.cells x.cells.toArray 82, .cells y.cells.toArray 82], ?_⟩
  rw [alloc_eq_grow, alloc_eq_grow, grow_grow]
  rfl
theorem perm_list {α : Type} [Inhabited α] {d d' : Array α} (h : PermIn 0 d.size d d') : d.toList.Perm d'.toList := by
  obtain ⟨h1, _, h3⟩ := h
  have e1 : (d'.extract 0 d.size).toList = d'.toList := by rw [← h1]; simp
  have e2 : (d.extract 0 d.size).toList = d.toList := by simp
  rw [e1, e2] at h3
  exact h3.symm
theorem sort_go (w : World) (blk c : Nat) (rs : List Rg) (re : List Value) (G : Rg → Prop) (h0 : G rg0) (hr : ∀ r ∈ rs, G r) (hrd : ∀ W, Ext (fun i => i = blk) w W → ∀ r, G r → By W r.la r.lc r.lo)
    (hB : HB w blk 82 (flat rs ++ re)) (hl : rs.length < 4611686018427387904) :
    Fn Try.prog 67 #[.slice (some ⟨blk, 0, none⟩) rs.length c, .func (.func 68) #[] #[]] w (fun v w' => v = .tuple #[] ∧ ∃ rs', rs.Perm rs' ∧ rs'.Pairwise (fun x y => cmp x.lo y.lo ≤ 0) ∧ HB w' blk 82 (flat rs' ++ re) ∧ Ext (fun i => i = blk) w w') := by
  haveI : Inhabited {x : Rg // G x} := ⟨⟨rg0, h0⟩⟩
  let d : Array {x : Rg // G x} := (rs.pmap Subtype.mk hr).toArray
  have hdl : d.toList.map Subtype.val = rs := by simp [d, List.map_pmap]
  have hds : d.size = rs.length := by simp [d]
  have hF : (flatK (encS G) 3 d).toList = flat rs := by
    have := flatK_flat (G := G) d
    rw [hdl] at this
    exact this
  have hH : HoldsK (encS G) 3 w blk 0 d := by
    rw [← hF] at hB
    exact hB.holds
  let cf : {x : Rg // G x} → {x : Rg // G x} → Int := fun x y => cmp x.1.lo y.1.lo
  have hlt : ∀ x y, ltOf cf x y = decide (cmp x.1.lo y.1.lo < 0) := fun _ _ => rfl
  have hO : SWO (ltOf cf) := {
    irrefl := fun x => by rw [hlt, (cmp_eq x.1.lo x.1.lo).2 rfl]; rfl,
    trans := fun x y z h1 h2 => by
      rw [hlt, decide_eq_true_eq] at *
      exact (cmp_lt_trans x.1.lo y.1.lo z.1.lo (by omega) (by omega)).2 (.inl h1),
    ntrans := fun x y z h1 h2 => by
      rw [hlt, decide_eq_false_iff_not] at *
      have a1 := cmp_anti x.1.lo y.1.lo
      have a2 := cmp_anti y.1.lo z.1.lo
      have a3 := cmp_anti x.1.lo z.1.lo
      have := (cmp_lt_trans z.1.lo y.1.lo x.1.lo (by omega) (by omega)).1
      omega }
  have hcmp : CmpLays Try.prog 68 #[] (encS G) 3 cf blk 0 d.size w := fun m os dk hs x y => by
    have hX := putRow_ext w blk m (flatK (encS G) 3 dk) os
    have h := cover1_x (sortWorldK (encS G) 3 w blk 0 m dk os) x.1 y.1 (hrd _ hX x.1 x.2) (hrd _ hX y.1 y.2)
    rw [Array.append_empty]
    refine Calls.mono h ?_
    rintro e w' ⟨v, he, rfl, q, os', hw⟩
    exact ⟨he, q, os', hw⟩
  have hcon := AnyQ.slices_SortFunc Try.sortRg 3 (fun w => AgT.agg (T := 82) w) (fun w => AgT.size (T := 82) w) (encS G) (fun x => Cel.len x.1) (fun x v hv => List.all_eq_true.1 (Cel.one x.1) v hv) cf hO 68 #[] blk 0 c d w (fun args w => FnT.run args w) hcmp hH hB.lt (by rw [hds]; exact hl)
  rw [hds] at hcon
  refine Calls.mono hcon ?_
  rintro e w' ⟨he, d', n, os, hp, hs, rfl⟩
  have hp2 := perm_list (by rw [hds]; exact hp)
  have hsz : d'.size = rs.length := by have := hp2.length_eq; simp at this; omega
  refine ⟨_, he, rfl, d'.toList.map Subtype.val, ?_, ?_, ?_, putRow_ext w blk n (flatK (encS G) 3 d') os⟩
  · rw [← hdl]
    exact hp2.map _
  · rw [List.pairwise_map, List.pairwise_iff_getElem]
    intro i j hi hj hij
    have h := hs i j (Nat.zero_le _) hij (by simpa [hsz] using hj)
    rw [hlt, decide_eq_false_iff_not] at h
    have hi' : i < d'.size := by simpa using hi
    have hj' : j < d'.size := by simpa using hj
    rw [getElem!_pos d' i hi', getElem!_pos d' j hj'] at h
    have := cmp_anti (d'[j]'hj').1.lo (d'[i]'hi').1.lo
    simp only [Array.getElem_toList]
    omega
  · have hF2 := flatK_flat (G := G) d'
    rw [← hF2]
    refine HB.grow ?_ os
    exact HB.putRow (HB.ahead hB n) (flatK (encS G) 3 d') (by rw [size_flatK, hsz, flat_length]; rfl)
end Go.Sx
