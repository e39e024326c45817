/- Part of a proof: several parts of a walk, one behind the other. -/
import Derived.Test.YtpnhoafmlhlfgaaGreatCMBj
import Derived.Test.YtpnhoafmlhlfgaaGreatCKB
import Derived.Shelf.SlSortCmp.WholeK
import Derived.Shelf.SlSortCmp.NoneTotal
import Derived.Test.YtpnhoafmlhlfgaaGreatCQBj
import Derived.Test.YtpnhoafmlhlfgaaGreatCOBj
import Derived.Test.YtpnhoafmlhlfgaaGreatCQCj
namespace Go.Proofs
open Go.Shelf Go.RowKit Go.Lib Go.Sort
def Tryz.sortRg_ren : Go.Shelf.Ren := ⟨fun | 6 => 91 | 15 => 94 | 14 => 101 | 28 => 110 | 29 => 111 | 20 => 119 | 21 => 120 | 22 => 121 | 23 => 122 | 24 => 123 | 25 => 124 | 26 => 125 | 27 => 126 | 46 => 135 | 47 => 128 | 48 => 129 | 49 => 136 | 50 => 137 | 57 => 139 | n => n, fun | 22 => 122 | 24 => 57 | 25 => 139 | 3 => 3 | 39 => 142 | 0 => 0 | 53 => 156 | 55 => 69 | 4 => 4 | 46 => 150 | 45 => 149 | 50 => 107 | 5 => 5 | 9 => 9 | 66 => 167 | 70 => 171 | 76 => 175 | 77 => 176 | n => n, fun | n => n⟩
theorem Tryz.sortRg : Go.Proofs.SlLaysF0.n6 Tryz.prog Tryz.sortRg_ren := {
  mixed := by kernel_rfl,
  f6 := ⟨Tryz.f91.name, by decide, Tryz.func91.trans (congrArg some (by kernel_rfl))⟩,
  f14 := ⟨Tryz.f101.name, by decide, Tryz.func101.trans (congrArg some (by kernel_rfl))⟩,
  f15 := Tryz.func94.trans (congrArg some (by kernel_rfl)),
  f20 := ⟨Tryz.f119.name, by decide, Tryz.func119.trans (congrArg some (by kernel_rfl))⟩,
  f21 := ⟨Tryz.f120.name, by decide, Tryz.func120.trans (congrArg some (by kernel_rfl))⟩,
  f22 := ⟨Tryz.f121.name, by decide, Tryz.func121.trans (congrArg some (by kernel_rfl))⟩,
  f23 := ⟨Tryz.f122.name, by decide, Tryz.func122.trans (congrArg some (by kernel_rfl))⟩,
  f24 := ⟨Tryz.f123.name, by decide, Tryz.func123.trans (congrArg some (by kernel_rfl))⟩,
  f25 := ⟨Tryz.f124.name, by decide, Tryz.func124.trans (congrArg some (by kernel_rfl))⟩,
  f26 := ⟨Tryz.f125.name, by decide, Tryz.func125.trans (congrArg some (by kernel_rfl))⟩,
  f27 := ⟨Tryz.f126.name, by decide, Tryz.func126.trans (congrArg some (by kernel_rfl))⟩,
  f28 := Tryz.func110.trans (congrArg some (by kernel_rfl)),
  f29 := Tryz.func111.trans (congrArg some (by kernel_rfl)),
  f46 := ⟨Tryz.f135.name, by decide, Tryz.func135.trans (congrArg some (by kernel_rfl))⟩,
  f47 := Tryz.func128.trans (congrArg some (by kernel_rfl)),
  f48 := Tryz.func129.trans (congrArg some (by kernel_rfl)),
  f49 := ⟨Tryz.f136.name, by decide, Tryz.func136.trans (congrArg some (by kernel_rfl))⟩,
  f50 := ⟨Tryz.f137.name, by decide, Tryz.func137.trans (congrArg some (by kernel_rfl))⟩,
  f57 := ⟨Tryz.f139.name, by decide, Tryz.func139.trans (congrArg some (by kernel_rfl))⟩,
  t0 := Tryz.underlying0,
  a0 := Tryz.isAgg0,
  z0 := Tryz.sizeOf0,
  v0 := Tryz.zeroValue0,
  t3 := Tryz.underlying3,
  a3 := Tryz.isAgg3,
  z3 := Tryz.sizeOf3,
  v3 := Tryz.zeroValue3,
  t4 := Tryz.underlying4,
  a4 := Tryz.isAgg4,
  z4 := Tryz.sizeOf4,
  v4 := Tryz.zeroValue4,
  t5 := Tryz.underlying5,
  a5 := Tryz.isAgg5,
  z5 := Tryz.sizeOf5,
  v5 := Tryz.zeroValue5,
  t9 := Tryz.underlying9,
  a9 := Tryz.isAgg9,
  z9 := Tryz.sizeOf9,
  v9 := Tryz.zeroValue9,
  t22 := Tryz.underlying122,
  a22 := Tryz.isAgg122,
  z22 := Tryz.sizeOf122,
  v22 := Tryz.zeroValue122,
  t25 := Tryz.underlying139,
  a25 := Tryz.isAgg139,
  z25 := Tryz.sizeOf139,
  v25 := Tryz.zeroValue139,
  t39 := Tryz.underlying142,
  a39 := Tryz.isAgg142,
  z39 := Tryz.sizeOf142,
  v39 := Tryz.zeroValue142,
  t45 := Tryz.underlying149,
  a45 := Tryz.isAgg149,
  z45 := Tryz.sizeOf149,
  v45 := Tryz.zeroValue149,
  t46 := Tryz.underlying150,
  a46 := Tryz.isAgg150,
  z46 := Tryz.sizeOf150,
  v46 := Tryz.zeroValue150,
  t50 := Tryz.underlying107,
  a50 := Tryz.isAgg107,
  z50 := Tryz.sizeOf107,
  v50 := Tryz.zeroValue107,
  t53 := Tryz.underlying156,
  a53 := Tryz.isAgg156,
  z53 := Tryz.sizeOf156,
  v53 := Tryz.zeroValue156,
  t55 := Tryz.underlying69,
  a55 := Tryz.isAgg69,
  z55 := Tryz.sizeOf69,
  v55 := Tryz.zeroValue69,
  t66 := Tryz.underlying167,
  a66 := Tryz.isAgg167,
  z66 := Tryz.sizeOf167,
  v66 := Tryz.zeroValue167,
  t70 := Tryz.underlying171,
  a70 := Tryz.isAgg171,
  z70 := Tryz.sizeOf171,
  v70 := Tryz.zeroValue171,
  t76 := Tryz.underlying175,
  a76 := Tryz.isAgg175,
  z76 := Tryz.sizeOf175,
  v76 := Tryz.zeroValue175,
  t77 := Tryz.underlying176,
  a77 := Tryz.isAgg176,
  z77 := Tryz.sizeOf176,
  v77 := Tryz.zeroValue176 }

end Go.Proofs
namespace Go.Sx
open Go Go.Proofs
set_option maxRecDepth 10000
theorem ex_drewN (w : World) (q : Nat) : Ex w (w.drewN q) := ⟨rfl, rfl, rfl, Nat.le_refl _, fun _ _ _ => rfl⟩
theorem common_x (w : World) (a a' : Option Addr) (c c' : Nat) (xs ys : List UInt8) (ha : By w a c xs) (hb : By w a' c' ys) :
    Fn Tryz.prog 71 #[.slice a xs.length c, .slice a' ys.length c'] w (fun v w' => v = .int .i64 (common xs ys) ∧ ∃ q, w' = w.drewN q) := by
  have l1 := ha.len
  have l2 := hb.len
  refine fn_enter Tryz.func71 rfl rfl rfl ?_
  refine sxo ?_
  refine c_loop (fun k : Nat => [(0, .slice a xs.length c), (1, .slice a' ys.length c'), (5, .int .i64 ((min xs.length ys.length : Nat) : Int)), (12, .int .i64 ((min xs.length ys.length : Nat) : Int)), (13, .int .i64 k)])
    (fun k w1 => (∃ q, w1 = w.drewN q) ∧ k ≤ xs.length ∧ k ≤ ys.length ∧ ∀ i, i < k → xs.getD i 0 = ys.getD i 0) (fun k => xs.length - k) 0 (by exact ⟨rfl, rfl, rfl, rfl, rfl, trivial⟩) ⟨⟨0, rfl⟩, Nat.zero_le _, Nat.zero_le _, fun i hi => absurd hi (by omega)⟩ ?_
  rintro k w1 ⟨⟨q, rfl⟩, hk1, hk2, hk⟩
  refine sxo ?_
  refine c_if rfl (fun hlt => ?_) (fun hge => ?_)
  · obtain ⟨ad, rfl⟩ := ha.some (by omega)
    obtain ⟨ad', rfl⟩ := hb.some (by omega)
    have ha1 : By (w.drewN q).drew (some ad) c xs := ha.ex (ex_drewN w (q + 1))
    have hb1 : By (w.drewN q).drew (some ad') c' ys := hb.ex (ex_drewN w (q + 1))
    refine sxo ?_
    refine c_draw (fun w' => w' = (w.drewN q).drew) (.one true 0 (.one true 1 (.one true 2 (.one true 3 (.one true 4 (.one true 5 (.one true 6 (.one true 7 (.one true 8 .nil))))))))) mixed (by kernel_rfl) rfl ?_
    refine sxo ?_
    refine c_ifn rfl (fun hne => ?_) (fun heq => ?_)
    · refine sxo ?_
      refine q_ret1 rfl rfl ⟨?_, q + 1, rfl⟩
      rw [common_eq xs ys k (by omega) (by omega) hk (.inr (.inr hne))]
    · refine sxo ?_
      refine q_again (k + 1) ⟨rfl, rfl, rfl, rfl, rfl, trivial⟩ ⟨⟨q + 1, rfl⟩, by omega, by omega, fun i hi => ?_⟩ (by omega)
      rcases Nat.lt_or_eq_of_le (Nat.lt_succ_iff.1 hi) with h | rfl
      · exact hk i h
      · exact heq
  · refine sxo ?_
    refine q_ret1 rfl rfl ⟨?_, q, rfl⟩
    rw [common_eq xs ys (min xs.length ys.length) (by omega) (by omega) (fun i hi => hk i (by omega)) (by omega)]
theorem compare_x (w : World) (a a' : Option Addr) (c c' : Nat) (xs ys : List UInt8) (ha : By w a c xs) (hb : By w a' c' ys) :
    Fn Tryz.prog 38 #[.slice a xs.length c, .slice a' ys.length c'] w (fun v w' => v = .int .i64 (cmp xs ys) ∧ ∃ q, w' = w.drewN q) := by
  have l1 := ha.len
  have l2 := hb.len
  have hcl := common_le xs ys
  refine fn_enter Tryz.func38 rfl rfl rfl ?_
  refine sxo ?_
  refine l_call rfl rfl rfl rfl (common_x w a a' c c' xs ys ha hb) ?_
  rintro _ w2 ⟨rfl, q, rfl⟩
  refine ⟨trivial, ?_⟩
  have ha2 : By (w.drewN q).drew a c xs := ha.ex (ex_drewN w (q + 1))
  have hb2 : By (w.drewN q).drew a' c' ys := hb.ex (ex_drewN w (q + 1))
  refine sxo ?_
  have hc := cmp_common xs ys
  refine l_if rfl (fun h1 => ?_) (fun h1 => ?_)
  · have h1' : common xs ys = xs.length := by omega
    refine sxo ?_
    refine c_if rfl (fun h2 => ?_) (fun h2 => ?_)
    · have h2' : common xs ys = ys.length := by omega
      refine sxo ?_
      exact q_ret1 rfl rfl ⟨by rw [hc, if_pos ⟨h1', h2'⟩], q, rfl⟩
    · refine sxo ?_
      refine c_if rfl (fun _ => ?_) (fun h3 => absurd h1 h3)
      refine sxo ?_
      exact q_ret1 rfl rfl ⟨by rw [hc, if_neg (by omega), if_pos h1'], q, rfl⟩
  · have h1' : ¬ common xs ys = xs.length := by omega
    refine sxo ?_
    refine c_if rfl (fun h3 => absurd h3 h1) (fun _ => ?_)
    refine sxo ?_
    refine c_draw (fun w' => w' = (w.drewN q).drew) (.one true 0 (.one true 1 (.one true 2 (.one true 3 (.one true 4 (.one true 5 (.one true 6 (.one true 7 (.one true 8 (.one true 9 (.one true 10 (.one true 11 (.one true 12 (.one true 13 (.one true 14 (.one true 15 .nil)))))))))))))))) mixed (by kernel_rfl) rfl ?_
    refine sxo ?_
    refine l_if rfl (fun h2 => ?_) (fun h2 => ?_)
    · refine sxo ?_
      exact q_ret1 rfl rfl ⟨by rw [hc, if_neg (by omega), if_neg h1', if_pos (.inl (by omega))], q + 1, rfl⟩
    · obtain ⟨ad, rfl⟩ := ha.some (by omega)
      obtain ⟨ad', rfl⟩ := hb.some (by omega)
      refine sxo ?_
      refine c_if rfl (fun h4 => ?_) (fun h4 => ?_)
      · refine sxo ?_
        exact q_ret1 rfl rfl ⟨by rw [hc, if_neg (by omega), if_neg h1', if_pos (.inr h4)], q + 1, rfl⟩
      · refine sxo ?_
        exact q_ret1 rfl rfl ⟨by rw [hc, if_neg (by omega), if_neg h1', if_neg (by rintro (h | h); omega; exact h4 h)], q + 1, rfl⟩
end Go.Sx
namespace Go.Sx
open Go Go.Proofs Go.Sort
set_option maxRecDepth 10000
section
variable {β : Type} [Cel β] {G : β → Prop} [Inhabited {x : β // G x}]
abbrev encS (G : β → Prop) : {x : β // G x} → List Value := fun x => Cel.f x.1
theorem flatK_flat (d : Array {x : β // G x}) : (flatK (encS G) (Cel.sz β) d).toList = flat (d.toList.map Subtype.val) := by
  have hp := Cel.pos (α := β)
  apply List.ext_getElem?
  intro j
  by_cases hj : j < d.size * Cel.sz β
  · have h1 : j / Cel.sz β < d.size := (Nat.div_lt_iff_lt_mul hp).2 hj
    have h2 : j % Cel.sz β < Cel.sz β := Nat.mod_lt _ hp
    have h3 : (Cel.f (d[j / Cel.sz β]!).1)[j % Cel.sz β]? = some ((Cel.f (d[j / Cel.sz β]!).1)[j % Cel.sz β]'(by rw [Cel.len]; exact h2)) := List.getElem?_eq_getElem _
    have h4 := flat_at (d.toList.map Subtype.val) (j / Cel.sz β) (d[j / Cel.sz β]!).1 (j % Cel.sz β) _ (by simp [h1]) h3
    rw [Nat.div_add_mod' j (Cel.sz β)] at h4
    rw [h4]
    have h5 := get_flatK (encS G) (Cel.sz β) d j hj
    have h6 : j < (flatK (encS G) (Cel.sz β) d).size := by simpa using hj
    rw [Array.getElem?_toList, Array.getElem?_eq_getElem h6, ← getElem!_pos _ j h6, h5]
    rw [getElem!_pos _ _ (by rw [Cel.len]; exact h2)]
  · rw [List.getElem?_eq_none (by simp; omega), List.getElem?_eq_none (by rw [flat_length]; simp; omega)]
end
theorem HB.holds {w : World} {b : Nat} {E : TypeId} {F : Array Value} {re : List Value} (h : HB w b E (F.toList ++ re)) : Holds id w b 0 F := fun j hj => by
  unfold HB at h
  have h1 : (F.toList ++ re)[j]? = some F[j] := by
    rw [List.getElem?_append_left (by simpa using hj)]
    simp [hj]
  constructor
  · rw [Nat.zero_add]
    have h2 : (F.toList ++ re).toArray[j]? = some F[j] := by simpa using h1
    simp only [World.cell?, h]
    rw [h2, getElem!_pos F j hj]
    rfl
  · simp [World.frozen?, h]
theorem HB.putRow {w : World} {b : Nat} {E : TypeId} {xs re : List Value} (h : HB w b E (xs ++ re)) (F : Array Value) (hF : F.size = xs.length) : HB (Sort.putRow id w b 0 F) b E (F.toList ++ re) := by
  unfold HB at h ⊢
  unfold Sort.putRow mapBlock
  have hlt : b < w.heap.size := (Array.getElem?_eq_some_iff.1 h).1
  simp only [Array.getElem?_modify, if_true, h, Option.map_some, onCells]
  congr 2
  apply Array.ext_getElem?
  intro j
  simp only [putCells, Array.getElem?_mapIdx, List.getElem?_toArray]
  by_cases hj : j < F.size
  · rw [List.getElem?_append_left (by omega), List.getElem?_append_left (by simpa using hj)]
    rw [List.getElem?_eq_getElem (by omega)]
    simp [hj]
  · rw [List.getElem?_append_right (by omega), List.getElem?_append_right (by simpa using hj)]
    have e : (F.toList).length = xs.length := by simpa using hF
    rw [e]
    cases (re[j - xs.length]?) with
    | none => rfl
    | some v => simp; omega
theorem putRow_ext (w : World) (b m : Nat) (F : Array Value) (os : Array Obj) : Ext (fun i => i = b) w (grow (Sort.putRow id (Sort.ahead w m) b 0 F) os) := by
  refine ⟨rfl, rfl, rfl, ?_, fun k hk hn => ?_⟩
  · simp [grow, Sort.putRow, mapBlock]
  · unfold grow Sort.putRow mapBlock
    rw [Array.getElem?_append_left (by simpa using hk)]
    rw [Array.getElem?_modify, if_neg (fun e => hn e.symm)]
    rfl
theorem HB.grow {w : World} {b : Nat} {E : TypeId} {xs : List Value} (h : HB w b E xs) (os : Array Obj) : HB (Sort.grow w os) b E xs := by
  unfold HB at h ⊢
  unfold Sort.grow
  rw [Array.getElem?_append_left (Array.getElem?_eq_some_iff.1 h).1]
  exact h
theorem HB.ahead {w : World} {b : Nat} {E : TypeId} {xs : List Value} (h : HB w b E xs) (m : Nat) : HB (Sort.ahead w m) b E xs := h
end Go.Sx
namespace Go.Sx
open Go Go.Proofs Go.Sort
set_option maxRecDepth 10000
section
variable {M : Mode} {P : Program} {n : Nat} {ds : Dx} {ops : Array Oper} {Q : Exit → Act → World → Prop} {b : Bool} {rest : Tr} {l : List (Nat × Value)} {w : World}
variable {ty : TypeId} {pos : String} {af : Array Edge} {g : Option (Nat × Bool)}
/-- A struct is laid into a new variable: just what the world is then. -/
theorem l_boxX {d : Nat} {T : TypeId} {x : Operand} {cs : List Value} (hb : (M.any || !b) = true) (hg : gOk ops l g = true) (hd : Nat.blt d n = true) (hx : ev l x = some (.agg cs.toArray))
    (hc : M.chk (w.alloc (.cells cs.toArray T))) (h : LJ M P n ds ops Q rest ((d, .pointer (some ⟨w.heap.size, 0, none⟩)) :: l) (w.alloc (.cells cs.toArray T))) :
    LJ M P n ds ops Q (.one b ⟨some d, .box T x, ty, pos, af, g⟩ rest) l w := by
  refine l_e hb hg hd (v := .pointer (some ⟨w.heap.size, 0, none⟩)) (fun ρ hρ => ?_) hc h
  simp [execOp, hρ _ _ hx, Instr.box, newVar, newRow, Value.cells]
end
theorem cover1_x (w : World) (x y : Rg) (hx : By w x.la x.lc x.lo) (hy : By w y.la y.lc y.lo) :
    Fn Tryz.prog 92 #[.agg x.cells.toArray, .agg y.cells.toArray] w (fun v w' => v = .int .i64 (cmp x.lo y.lo) ∧ ∃ q os', w' = Sort.grow (w.drewN q) os') := by
  refine fn_enter Tryz.func92 rfl rfl rfl ?_
  refine sxo ?_
  refine l_boxX rfl rfl rfl rfl trivial ?_
  refine l_boxX rfl rfl rfl rfl trivial ?_
  have hN1 := New.mk' w 57 x.cells
  have hN2 := New.mk' (w.alloc (.cells x.cells.toArray 57)) 57 y.cells
  have hb1 := hN1.hb.ex hN2.ex
  have hb2 := hN2.hb
  have hx2 := (hx.ex hN1.ex).ex hN2.ex
  have hy2 := (hy.ex hN1.ex).ex hN2.ex
  refine sxo ?_
  refine l_call rfl rfl rfl rfl (compare_x _ _ _ _ _ _ _ hx2 hy2) ?_
  rintro _ w2 ⟨rfl, q, rfl⟩
  refine ⟨trivial, ?_⟩
  refine sxo ?_
  refine q_ret1 rfl rfl ⟨rfl, q, #[.cells x.cells.toArray 57, .cells y.cells.toArray 57], ?_⟩
  rw [alloc_eq_grow, alloc_eq_grow, grow_grow]
  rfl
theorem perm_list {α : Type} [Inhabited α] {d d' : Array α} (h : PermIn 0 d.size d d') : d.toList.Perm d'.toList := by
  obtain ⟨h1, _, h3⟩ := h
  have e1 : (d'.extract 0 d.size).toList = d'.toList := by rw [← h1]; simp
  have e2 : (d.extract 0 d.size).toList = d.toList := by simp
  rw [e1, e2] at h3
  exact h3.symm
theorem sort_go (w : World) (blk c : Nat) (rs : List Rg) (re : List Value) (G : Rg → Prop) (h0 : G rg0) (hr : ∀ r ∈ rs, G r) (hrd : ∀ W, Ext (fun i => i = blk) w W → ∀ r, G r → By W r.la r.lc r.lo)
    (hB : HB w blk 57 (flat rs ++ re)) (hl : rs.length < 4611686018427387904) :
    Fn Tryz.prog 91 #[.slice (some ⟨blk, 0, none⟩) rs.length c, .func (.func 92) #[] #[]] w (fun v w' => v = .tuple #[] ∧ ∃ rs', rs.Perm rs' ∧ rs'.Pairwise (fun x y => cmp x.lo y.lo ≤ 0) ∧ HB w' blk 57 (flat rs' ++ re) ∧ Ext (fun i => i = blk) w w') := by
  haveI : Inhabited {x : Rg // G x} := ⟨⟨rg0, h0⟩⟩
  let d : Array {x : Rg // G x} := (rs.pmap Subtype.mk hr).toArray
  have hdl : d.toList.map Subtype.val = rs := by simp [d, List.map_pmap]
  have hds : d.size = rs.length := by simp [d]
  have hF : (flatK (encS G) 3 d).toList = flat rs := by
    have := flatK_flat (G := G) d
    rw [hdl] at this
    exact this
  have hH : HoldsK (encS G) 3 w blk 0 d := by
    rw [← hF] at hB
    exact hB.holds
  let cf : {x : Rg // G x} → {x : Rg // G x} → Int := fun x y => cmp x.1.lo y.1.lo
  have hlt : ∀ x y, ltOf cf x y = decide (cmp x.1.lo y.1.lo < 0) := fun _ _ => rfl
  have hO : SWO (ltOf cf) := {
    irrefl := fun x => by rw [hlt, (cmp_eq x.1.lo x.1.lo).2 rfl]; rfl,
    trans := fun x y z h1 h2 => by
      rw [hlt, decide_eq_true_eq] at *
      exact (cmp_lt_trans x.1.lo y.1.lo z.1.lo (by omega) (by omega)).2 (.inl h1),
    ntrans := fun x y z h1 h2 => by
      rw [hlt, decide_eq_false_iff_not] at *
      have a1 := cmp_anti x.1.lo y.1.lo
      have a2 := cmp_anti y.1.lo z.1.lo
      have a3 := cmp_anti x.1.lo z.1.lo
      have := (cmp_lt_trans z.1.lo y.1.lo x.1.lo (by omega) (by omega)).1
      omega }
  have hcmp : CmpLays Tryz.prog 92 #[] (encS G) 3 cf blk 0 d.size w := fun m os dk hs x y => by
    have hX := putRow_ext w blk m (flatK (encS G) 3 dk) os
    have h := cover1_x (sortWorldK (encS G) 3 w blk 0 m dk os) x.1 y.1 (hrd _ hX x.1 x.2) (hrd _ hX y.1 y.2)
    rw [Array.append_empty]
    refine Calls.mono h ?_
    rintro e w' ⟨v, he, rfl, q, os', hw⟩
    exact ⟨he, q, os', hw⟩
  have hcon := AnyQ.slices_SortFunc Tryz.sortRg 3 (fun w => AgT.agg (T := 57) w) (fun w => AgT.size (T := 57) w) (encS G) (fun x => Cel.len x.1) (fun x v hv => List.all_eq_true.1 (Cel.one x.1) v hv) cf hO 92 #[] blk 0 c d w (fun args w => FnT.run args w) hcmp hH hB.lt (by rw [hds]; exact hl)
  rw [hds] at hcon
  refine Calls.mono hcon ?_
  rintro e w' ⟨he, d', n, os, hp, hs, rfl⟩
  have hp2 := perm_list (by rw [hds]; exact hp)
  have hsz : d'.size = rs.length := by have := hp2.length_eq; simp at this; omega
  refine ⟨_, he, rfl, d'.toList.map Subtype.val, ?_, ?_, ?_, putRow_ext w blk n (flatK (encS G) 3 d') os⟩
  · rw [← hdl]
    exact hp2.map _
  · rw [List.pairwise_map, List.pairwise_iff_getElem]
    intro i j hi hj hij
    have h := hs i j (Nat.zero_le _) hij (by simpa [hsz] using hj)
    rw [hlt, decide_eq_false_iff_not] at h
    have hi' : i < d'.size := by simpa using hi
    have hj' : j < d'.size := by simpa using hj
    rw [getElem!_pos d' i hi', getElem!_pos d' j hj'] at h
    have := cmp_anti (d'[j]'hj').1.lo (d'[i]'hi').1.lo
    simp only [Array.getElem_toList]
    omega
  · have hF2 := flatK_flat (G := G) d'
    rw [← hF2]
    refine HB.grow ?_ os
    exact HB.putRow (HB.ahead hB n) (flatK (encS G) 3 d') (by rw [size_flatK, hsz, flat_length]; rfl)
end Go.Sx
namespace Go.Sx
open Go Go.Proofs Go.Sort
set_option maxRecDepth 10000
variable {w0 : World} {H : List Ck}
theorem sort_s {a : Option Addr} {c : Nat} {rs : List Rg} (hl : rs.length < 4611686018427387904) (hr : ∀ r ∈ rs, RBy w0 H r.la r.lc r.lo) :
    FnS Tryz.prog w0 (ol 57 a c rs :: H) 91 #[.slice a rs.length c, .func (.func 92) #[] #[]] (fun v H' => v = .tuple #[] ∧ ∃ rs', rs.Perm rs' ∧ rs'.Pairwise (fun x y => cmp x.lo y.lo ≤ 0) ∧ H' = ol 57 a c rs' :: H) := fun w hw => by
  have ho := Sat.ownOf (c' := ol 57 a c rs) .hd hw
  rcases ho.open with ⟨rfl, h0, rfl, _⟩ | ⟨blk, re, rfl, h1, h2, h3, h4, h5⟩
  · have e0 : rs = [] := List.eq_nil_of_length_eq_zero h0
    subst e0
    refine Calls.mono (AnyF.slices_SortFunc_none Tryz.sortRg none 0 (.func (.func 92) #[] #[]) w) ?_
    rintro e w' ⟨he, rfl⟩
    exact ⟨_, he, _, ⟨rfl, [], .refl _, .nil, rfl⟩, hw⟩
  · refine Calls.mono (sort_go w blk c rs re (fun r => RBy w0 H r.la r.lc r.lo) RBy.nil hr (fun W hX r h => h W ?_) h2 hl) ?_
    · refine Sat.tl (c := .star []) (hw.upd (c' := .star []) fun S hS hc => ⟨hX.mono fun i _ e => by subst e; exact hc.2 _ rfl, fun _ => False, trivial, fun b hb => hb.elim⟩)
    · rintro e w' ⟨v, he, rfl, rs', hp, hs, hB, hX⟩
      refine ⟨_, he, _, ⟨rfl, rs', hp, hs, rfl⟩, ?_⟩
      have hlen := hp.length_eq
      have hO : Own w' w0.heap.size 57 3 (some ⟨blk, 0, none⟩) rs'.length c (flat rs') := Own.mk' h1 hB (flat_length rs') (by omega) h4 (by
        have e1 : (flat rs').length = (flat rs).length := by rw [flat_length, flat_length, hlen]
        rw [e1]; exact h5)
      exact hw.own (ha := .hd) hO (hX.mono fun i _ e => by rw [e]; rfl) (fun ad' e => by cases e; exact .inl rfl)
end Go.Sx
namespace Go.Sx
open Go Go.Proofs
set_option maxRecDepth 10000
variable {w0 : World} {H : List Ck}
/-- Two lists, each rising, as one. -/
def mgR : List Rg → List Rg → List Rg
  | [], ys => ys
  | x :: xs, [] => x :: xs
  | x :: xs, y :: ys => if cmp x.lo y.lo ≤ 0 then x :: mgR xs (y :: ys) else y :: mgR (x :: xs) ys
termination_by xs ys => xs.length + ys.length
structure MrI where
  i : Nat
  j : Nat
  a : Option Addr
  c : Nat
  out : List Rg
structure MrI.ok (m : MrI) (us vs : List Rg) : Prop where
  hi : m.i ≤ us.length
  hj : m.j ≤ vs.length
  eq : m.out ++ mgR (us.drop m.i) (vs.drop m.j) = mgR us vs
  len : m.out.length = m.i + m.j
end Go.Sx
namespace Go.Sx
open Go Go.Proofs
set_option maxRecDepth 10000
section
variable {P : Program} {n : Nat} {ds : Dx} {Q : Exit → Act → World → Prop} {l l' : List (Nat × Value)} {w0 : World} {H : List Ck} {M : Md} {ops : Array Oper} {rest : Tr} {b : Bool} {ty : TypeId} {pos : String} {af : Array Edge} {g : Option (Nat × Bool)}
variable {α : Type} [Cel α]
theorem addr_add2 (k m o : Nat) : ((⟨k, 0, none⟩ : Addr).add m).add o = (⟨k, 0, none⟩ : Addr).add (m + o) := by
  unfold Addr.add
  by_cases h : o = 0 <;> by_cases h' : m = 0 <;> simp [h, h']
/-- A store into a part of an element. -/
theorem s_setF {T : TypeId} [ht : ScT P T] {E : TypeId} {p x : Operand} {ad : Addr} {i o c sz : Nat} {xs : List α} {x0 y : α} {v : Value} {H' : List Ck} (hp : ev l p = some (.pointer (some ((ad.add (i * sz)).add o)))) (hx : ev l x = some v)
    (hA : At (ol E (some ad) c xs) (ol E (some ad) c (xs.set i y)) H H') (h0 : xs[i]? = some x0) (hc : Cel.f y = (Cel.f x0).set o v) (ho : o < sz) (hv : v.oneCell' = true) (h : SL M P n ds ops Q rest l w0 H')
    (hb : M.act b = true := by exact rfl) (hg : gOk ops l g = true := by exact rfl) (hz : sz = Cel.sz α := by exact rfl) (hk : Chk M H' := by intros; first | exact chk_seq | exact chk_held (by exact ent)) : SL M P n ds ops Q (.one b ⟨none, .store T p x, ty, pos, af, g⟩ rest) l w0 H := .mk fun w hw => by
  subst hz
  have how := Sat.ownOf hA hw
  rcases how.open with ⟨h0', _⟩ | ⟨k, re, h1, h2, h3, h4, h5, h6⟩
  · cases h0'
  · simp only [Option.some.injEq] at h1
    subst h1
    obtain ⟨hi, hxi⟩ := List.getElem?_eq_some_iff.1 h0
    have hlt : i * Cel.sz α + Cel.sz α ≤ (flat xs).length := by
      rw [flat_length, ← Nat.succ_mul]
      exact Nat.mul_le_mul_right _ hi
    rw [addr_add2] at hp
    have hfl := Cel.len x0
    have et : ((flat xs ++ re).take (i * Cel.sz α)).length = i * Cel.sz α := by rw [List.length_take, List.length_append]; omega
    have ex : flat xs ++ re = (flat xs ++ re).take (i * Cel.sz α) ++ (Cel.f x0 ++ (flat xs ++ re).drop (i * Cel.sz α + Cel.sz α)) := by
      have e1 : xs = xs.take i ++ x0 :: xs.drop (i + 1) := by
        conv => lhs; rw [← List.take_append_drop i xs, dropG h0]
      have e2 : flat xs = flat (xs.take i) ++ (Cel.f x0 ++ flat (xs.drop (i + 1))) := by
        conv => lhs; rw [e1]
        simp [flat]
      have e3 : (flat (xs.take i)).length = i * Cel.sz α := by rw [flat_length, List.length_take, Nat.min_eq_left (by omega)]
      generalize flat (xs.drop (i + 1)) = D at e2
      generalize flat (xs.take i) = T at e2 e3
      conv => lhs; rw [← List.take_append_drop (i * Cel.sz α) (flat xs ++ re)]
      congr 1
      rw [e2, List.append_assoc, List.drop_left' e3, ← List.drop_drop, List.drop_left' e3, List.append_assoc, List.drop_left' hfl]
    refine l_store (Md.any hb) hg hp hx h3 (by rw [List.length_append]; omega) hv fun w' g1 g2 g3 => ?_
    have e : (flat xs ++ re).set (i * Cel.sz α + o) v = (flat xs ++ re).take (i * Cel.sz α) ++ Cel.f y ++ (flat xs ++ re).drop (i * Cel.sz α + Cel.sz α) := by
      conv => lhs; rw [ex]
      rw [List.set_append_right _ _ (by omega), et, List.set_append_left _ _ (by omega), hc, show i * Cel.sz α + o - i * Cel.sz α = o by omega, List.append_assoc]
    rw [e] at g1
    have hw' := hw.own hA (set_core h2 h3 h4 h5 h6 hi g1) (g2.mono fun i _ e => by rw [e]; rfl) (fun ad' e => by cases e; exact .inl rfl)
    exact ⟨hk.out hw', h.out w' hw'⟩
end
end Go.Sx
namespace Go.Sx
open Go Go.Proofs
set_option maxRecDepth 10000
variable {w0 : World} {H : List Ck}
end Go.Sx
namespace Go.Sx
open Go Go.Proofs
set_option maxRecDepth 10000
variable {w0 : World} {H : List Ck}
/-- The bytes of a range are among these. -/
def GdR (bs : List SB) (x : Rg) : Prop := (⟨x.la, x.lc, x.lo⟩ : SB) ∈ bs ∧ ((⟨x.ha, x.hc, x.hi⟩ : SB) ∈ bs ∨ (x.ha = none ∧ x.hc = 0 ∧ x.hi = []))
theorem GdR.mono {bs bs' : List SB} {x : Rg} (h : GdR bs x) (hb : ∀ s, s ∈ bs → s ∈ bs') : GdR bs' x := ⟨hb _ h.1, h.2.imp (hb _) id⟩
theorem GdR.rrg {bs : List SB} {x : Rg} (h : GdR bs x) : RRg w0 (fam 5 bs :: H) x := by
  refine ⟨fam_by h.1, ?_⟩
  rcases h.2 with h | ⟨h1, h2, h3⟩
  · exact fam_by h
  · rw [h1, h2, h3]
    exact RBy.nil
theorem map_getLast {out : List Rg} {l : Rg} (h : out[out.length - 1]? = some l) : (out.map Rg.d).getLast? = some l.d := by
  rw [List.getLast?_map, List.getLast?_eq_getElem?, h]
  rfl
theorem set_last {α : Type} {out : List α} {y : α} (h : 0 < out.length) : out.set (out.length - 1) y = out.dropLast ++ [y] := by
  rcases List.eq_nil_or_concat out with rfl | ⟨r, x, rfl⟩
  · simp at h
  · simp
end Go.Sx
namespace Go.Sx
open Go Go.Proofs
set_option maxRecDepth 10000
variable {w0 : World} {H : List Ck}
theorem cvP_nil {r : T3} : cvP [] r = [r] := rfl
theorem cvP_far {out : List Rg} {l : Rg} {r : T3} (h : out[out.length - 1]? = some l) (h1 : l.all = false) (h2 : cmp l.hi r.1 < 0) : cvP (out.map Rg.d) r = out.map Rg.d ++ [r] := by
  simp only [cvP, map_getLast h]
  rw [if_pos ⟨h1, h2⟩]
theorem cvP_in {out : List Rg} {l : Rg} {r : T3} (h : out[out.length - 1]? = some l) (h1 : ¬ (l.all = false ∧ cmp l.hi r.1 < 0)) (h2 : ¬ beR l.d r = true) : cvP (out.map Rg.d) r = out.map Rg.d := by
  simp only [cvP, map_getLast h]
  rw [if_neg h1, if_neg h2]
theorem cvP_near {out : List Rg} {l : Rg} {r : T3} (h : out[out.length - 1]? = some l) (h1 : ¬ (l.all = false ∧ cmp l.hi r.1 < 0)) (h2 : beR l.d r = true) {y : Rg} (hy : y.d = (l.lo, r.2.1, r.2.2)) : cvP (out.map Rg.d) r = (out.set (out.length - 1) y).map Rg.d := by
  simp only [cvP, map_getLast h]
  rw [if_neg h1, if_pos h2, set_last (by have := (List.getElem?_eq_some_iff.1 h).1; omega), List.map_append, List.map_dropLast]
  simp only [List.map_cons, List.map_nil, hy]
theorem perm_cv {rs : List Rg} {ins srt : List Rg} (hi : ins.map Rg.d = (rs.filter fun r => !emR r.d).map fun r => foR r.d) (hp : ins.Perm srt) (hs : srt.Pairwise fun x y => cmp x.lo y.lo ≤ 0) : IsCv (rs.map Rg.d) ((srt.map Rg.d).foldl cvP []) := by
  refine cvP_is ?_ (List.pairwise_map.2 hs)
  refine (hp.symm.map Rg.d).trans ?_
  rw [hi, List.filter_map, List.map_map]
  exact .refl _
end Go.Sx

