/- Part of a proof: several parts of a walk, one behind the other. -/
import Derived.Test.YtimakbpghggdfaaGreatCO2j
import Derived.Test.YtimakbpghggdfaaGreatCKB
import Derived.Shelf.SlSortCmp.WholeK
namespace Go.Proofs
open Go.Shelf Go.RowKit Go.Lib Go.Sort
def Tryz.sortRg_ren : Go.Shelf.Ren := ⟨fun | 6 => 83 | 15 => 86 | 14 => 107 | 28 => 116 | 29 => 117 | 20 => 137 | 21 => 138 | 22 => 139 | 23 => 140 | 24 => 141 | 25 => 142 | 26 => 143 | 27 => 144 | 46 => 163 | 47 => 146 | 48 => 147 | 49 => 164 | 50 => 165 | 57 => 167 | n => n, fun | 22 => 104 | 24 => 53 | 25 => 132 | 3 => 3 | 39 => 135 | 0 => 0 | 53 => 152 | 55 => 32 | 4 => 4 | 46 => 146 | 45 => 145 | 50 => 92 | 5 => 5 | 9 => 9 | 66 => 169 | 70 => 173 | 76 => 184 | 77 => 185 | n => n, fun | n => n⟩
theorem Tryz.sortRg : Go.Proofs.SlLaysF0.n6 Tryz.prog Tryz.sortRg_ren := {
  mixed := by kernel_rfl,
  f6 := ⟨Tryz.f83.name, by decide, Tryz.func83.trans (congrArg some (by kernel_rfl))⟩,
  f14 := ⟨Tryz.f107.name, by decide, Tryz.func107.trans (congrArg some (by kernel_rfl))⟩,
  f15 := Tryz.func86.trans (congrArg some (by kernel_rfl)),
  f20 := ⟨Tryz.f137.name, by decide, Tryz.func137.trans (congrArg some (by kernel_rfl))⟩,
  f21 := ⟨Tryz.f138.name, by decide, Tryz.func138.trans (congrArg some (by kernel_rfl))⟩,
  f22 := ⟨Tryz.f139.name, by decide, Tryz.func139.trans (congrArg some (by kernel_rfl))⟩,
  f23 := ⟨Tryz.f140.name, by decide, Tryz.func140.trans (congrArg some (by kernel_rfl))⟩,
  f24 := ⟨Tryz.f141.name, by decide, Tryz.func141.trans (congrArg some (by kernel_rfl))⟩,
  f25 := ⟨Tryz.f142.name, by decide, Tryz.func142.trans (congrArg some (by kernel_rfl))⟩,
  f26 := ⟨Tryz.f143.name, by decide, Tryz.func143.trans (congrArg some (by kernel_rfl))⟩,
  f27 := ⟨Tryz.f144.name, by decide, Tryz.func144.trans (congrArg some (by kernel_rfl))⟩,
  f28 := Tryz.func116.trans (congrArg some (by kernel_rfl)),
  f29 := Tryz.func117.trans (congrArg some (by kernel_rfl)),
  f46 := ⟨Tryz.f163.name, by decide, Tryz.func163.trans (congrArg some (by kernel_rfl))⟩,
  f47 := Tryz.func146.trans (congrArg some (by kernel_rfl)),
  f48 := Tryz.func147.trans (congrArg some (by kernel_rfl)),
  f49 := ⟨Tryz.f164.name, by decide, Tryz.func164.trans (congrArg some (by kernel_rfl))⟩,
  f50 := ⟨Tryz.f165.name, by decide, Tryz.func165.trans (congrArg some (by kernel_rfl))⟩,
  f57 := ⟨Tryz.f167.name, by decide, Tryz.func167.trans (congrArg some (by kernel_rfl))⟩,
  t0 := Tryz.underlying0,
  a0 := Tryz.isAgg0,
  z0 := Tryz.sizeOf0,
  v0 := Tryz.zeroValue0,
  t3 := Tryz.underlying3,
  a3 := Tryz.isAgg3,
  z3 := Tryz.sizeOf3,
  v3 := Tryz.zeroValue3,
  t4 := Tryz.underlying4,
  a4 := Tryz.isAgg4,
  z4 := Tryz.sizeOf4,
  v4 := Tryz.zeroValue4,
  t5 := Tryz.underlying5,
  a5 := Tryz.isAgg5,
  z5 := Tryz.sizeOf5,
  v5 := Tryz.zeroValue5,
  t9 := Tryz.underlying9,
  a9 := Tryz.isAgg9,
  z9 := Tryz.sizeOf9,
  v9 := Tryz.zeroValue9,
  t22 := Tryz.underlying104,
  a22 := Tryz.isAgg104,
  z22 := Tryz.sizeOf104,
  v22 := Tryz.zeroValue104,
  t25 := Tryz.underlying132,
  a25 := Tryz.isAgg132,
  z25 := Tryz.sizeOf132,
  v25 := Tryz.zeroValue132,
  t39 := Tryz.underlying135,
  a39 := Tryz.isAgg135,
  z39 := Tryz.sizeOf135,
  v39 := Tryz.zeroValue135,
  t45 := Tryz.underlying145,
  a45 := Tryz.isAgg145,
  z45 := Tryz.sizeOf145,
  v45 := Tryz.zeroValue145,
  t46 := Tryz.underlying146,
  a46 := Tryz.isAgg146,
  z46 := Tryz.sizeOf146,
  v46 := Tryz.zeroValue146,
  t50 := Tryz.underlying92,
  a50 := Tryz.isAgg92,
  z50 := Tryz.sizeOf92,
  v50 := Tryz.zeroValue92,
  t53 := Tryz.underlying152,
  a53 := Tryz.isAgg152,
  z53 := Tryz.sizeOf152,
  v53 := Tryz.zeroValue152,
  t55 := Tryz.underlying32,
  a55 := Tryz.isAgg32,
  z55 := Tryz.sizeOf32,
  v55 := Tryz.zeroValue32,
  t66 := Tryz.underlying169,
  a66 := Tryz.isAgg169,
  z66 := Tryz.sizeOf169,
  v66 := Tryz.zeroValue169,
  t70 := Tryz.underlying173,
  a70 := Tryz.isAgg173,
  z70 := Tryz.sizeOf173,
  v70 := Tryz.zeroValue173,
  t76 := Tryz.underlying184,
  a76 := Tryz.isAgg184,
  z76 := Tryz.sizeOf184,
  v76 := Tryz.zeroValue184,
  t77 := Tryz.underlying185,
  a77 := Tryz.isAgg185,
  z77 := Tryz.sizeOf185,
  v77 := Tryz.zeroValue185 }

end Go.Proofs
namespace Go.Sx
open Go Go.Proofs
set_option maxRecDepth 10000
theorem ex_drewN (w : World) (q : Nat) : Ex w (w.drewN q) := ⟨rfl, rfl, rfl, Nat.le_refl _, fun _ _ _ => rfl⟩
theorem common_x (w : World) (a a' : Option Addr) (c c' : Nat) (xs ys : List UInt8) (ha : By w a c xs) (hb : By w a' c' ys) :
    Fn Tryz.prog 46 #[.slice a xs.length c, .slice a' ys.length c'] w (fun v w' => v = .int .i64 (common xs ys) ∧ ∃ q, w' = w.drewN q) := by
  have l1 := ha.len
  have l2 := hb.len
  refine fn_enter Tryz.func46 rfl rfl rfl ?_
  refine sxo ?_
  refine c_loop (fun k : Nat => [(0, .slice a xs.length c), (1, .slice a' ys.length c'), (5, .int .i64 ((min xs.length ys.length : Nat) : Int)), (12, .int .i64 ((min xs.length ys.length : Nat) : Int)), (13, .int .i64 k)])
    (fun k w1 => (∃ q, w1 = w.drewN q) ∧ k ≤ xs.length ∧ k ≤ ys.length ∧ ∀ i, i < k → xs.getD i 0 = ys.getD i 0) (fun k => xs.length - k) 0 (by exact ⟨rfl, rfl, rfl, rfl, rfl, trivial⟩) ⟨⟨0, rfl⟩, Nat.zero_le _, Nat.zero_le _, fun i hi => absurd hi (by omega)⟩ ?_
  rintro k w1 ⟨⟨q, rfl⟩, hk1, hk2, hk⟩
  refine sxo ?_
  refine c_if rfl (fun hlt => ?_) (fun hge => ?_)
  · obtain ⟨ad, rfl⟩ := ha.some (by omega)
    obtain ⟨ad', rfl⟩ := hb.some (by omega)
    have ha1 : By (w.drewN q).drew (some ad) c xs := ha.ex (ex_drewN w (q + 1))
    have hb1 : By (w.drewN q).drew (some ad') c' ys := hb.ex (ex_drewN w (q + 1))
    refine sxo ?_
    refine c_draw (fun w' => w' = (w.drewN q).drew) (.one true 0 (.one true 1 (.one true 2 (.one true 3 (.one true 4 (.one true 5 (.one true 6 (.one true 7 (.one true 8 .nil))))))))) mixed (by kernel_rfl) rfl ?_
    refine sxo ?_
    refine c_ifn rfl (fun hne => ?_) (fun heq => ?_)
    · refine sxo ?_
      refine q_ret1 rfl rfl ⟨?_, q + 1, rfl⟩
      rw [common_eq xs ys k (by omega) (by omega) hk (.inr (.inr hne))]
    · refine sxo ?_
      refine q_again (k + 1) ⟨rfl, rfl, rfl, rfl, rfl, trivial⟩ ⟨⟨q + 1, rfl⟩, by omega, by omega, fun i hi => ?_⟩ (by omega)
      rcases Nat.lt_or_eq_of_le (Nat.lt_succ_iff.1 hi) with h | rfl
      · exact hk i h
      · exact heq
  · refine sxo ?_
    refine q_ret1 rfl rfl ⟨?_, q, rfl⟩
    rw [common_eq xs ys (min xs.length ys.length) (by omega) (by omega) (fun i hi => hk i (by omega)) (by omega)]
theorem compare_x (w : World) (a a' : Option Addr) (c c' : Nat) (xs ys : List UInt8) (ha : By w a c xs) (hb : By w a' c' ys) :
    Fn Tryz.prog 15 #[.slice a xs.length c, .slice a' ys.length c'] w (fun v w' => v = .int .i64 (cmp xs ys) ∧ ∃ q, w' = w.drewN q) := by
  have l1 := ha.len
  have l2 := hb.len
  have hcl := common_le xs ys
  refine fn_enter Tryz.func15 rfl rfl rfl ?_
  refine sxo ?_
  refine l_call rfl rfl rfl rfl (common_x w a a' c c' xs ys ha hb) ?_
  rintro _ w2 ⟨rfl, q, rfl⟩
  refine ⟨trivial, ?_⟩
  have ha2 : By (w.drewN q).drew a c xs := ha.ex (ex_drewN w (q + 1))
  have hb2 : By (w.drewN q).drew a' c' ys := hb.ex (ex_drewN w (q + 1))
  refine sxo ?_
  have hc := cmp_common xs ys
  refine l_if rfl (fun h1 => ?_) (fun h1 => ?_)
  · have h1' : common xs ys = xs.length := by omega
    refine sxo ?_
    refine c_if rfl (fun h2 => ?_) (fun h2 => ?_)
    · have h2' : common xs ys = ys.length := by omega
      refine sxo ?_
      exact q_ret1 rfl rfl ⟨by rw [hc, if_pos ⟨h1', h2'⟩], q, rfl⟩
    · refine sxo ?_
      refine c_if rfl (fun _ => ?_) (fun h3 => absurd h1 h3)
      refine sxo ?_
      exact q_ret1 rfl rfl ⟨by rw [hc, if_neg (by omega), if_pos h1'], q, rfl⟩
  · have h1' : ¬ common xs ys = xs.length := by omega
    refine sxo ?_
    refine c_if rfl (fun h3 => absurd h3 h1) (fun _ => ?_)
    refine sxo ?_
    refine c_draw (fun w' => w' = (w.drewN q).drew) (.one true 0 (.one true 1 (.one true 2 (.one true 3 (.one true 4 (.one true 5 (.one true 6 (.one true 7 (.one true 8 (.one true 9 (.one true 10 (.one true 11 (.one true 12 (.one true 13 (.one true 14 (.one true 15 .nil)))))))))))))))) mixed (by kernel_rfl) rfl ?_
    refine sxo ?_
    refine l_if rfl (fun h2 => ?_) (fun h2 => ?_)
    · refine sxo ?_
      exact q_ret1 rfl rfl ⟨by rw [hc, if_neg (by omega), if_neg h1', if_pos (.inl (by omega))], q + 1, rfl⟩
    · obtain ⟨ad, rfl⟩ := ha.some (by omega)
      obtain ⟨ad', rfl⟩ := hb.some (by omega)
      refine sxo ?_
      refine c_if rfl (fun h4 => ?_) (fun h4 => ?_)
      · refine sxo ?_
        exact q_ret1 rfl rfl ⟨by rw [hc, if_neg (by omega), if_neg h1', if_pos (.inr h4)], q + 1, rfl⟩
      · refine sxo ?_
        exact q_ret1 rfl rfl ⟨by rw [hc, if_neg (by omega), if_neg h1', if_neg (by rintro (h | h); omega; exact h4 h)], q + 1, rfl⟩
end Go.Sx
namespace Go.Sx
open Go Go.Proofs Go.Sort
set_option maxRecDepth 10000
section
variable {β : Type} [Cel β] {G : β → Prop} [Inhabited {x : β // G x}]
abbrev encS (G : β → Prop) : {x : β // G x} → List Value := fun x => Cel.f x.1
theorem flatK_flat (d : Array {x : β // G x}) : (flatK (encS G) (Cel.sz β) d).toList = flat (d.toList.map Subtype.val) := by
  have hp := Cel.pos (α := β)
  apply List.ext_getElem?
  intro j
  by_cases hj : j < d.size * Cel.sz β
  · have h1 : j / Cel.sz β < d.size := (Nat.div_lt_iff_lt_mul hp).2 hj
    have h2 : j % Cel.sz β < Cel.sz β := Nat.mod_lt _ hp
    have h3 : (Cel.f (d[j / Cel.sz β]!).1)[j % Cel.sz β]? = some ((Cel.f (d[j / Cel.sz β]!).1)[j % Cel.sz β]'(by rw [Cel.len]; exact h2)) := List.getElem?_eq_getElem _
    have h4 := flat_at (d.toList.map Subtype.val) (j / Cel.sz β) (d[j / Cel.sz β]!).1 (j % Cel.sz β) _ (by simp [h1]) h3
    rw [Nat.div_add_mod' j (Cel.sz β)] at h4
    rw [h4]
    have h5 := get_flatK (encS G) (Cel.sz β) d j hj
    have h6 : j < (flatK (encS G) (Cel.sz β) d).size := by simpa using hj
    rw [Array.getElem?_toList, Array.getElem?_eq_getElem h6, ← getElem!_pos _ j h6, h5]
    rw [getElem!_pos _ _ (by rw [Cel.len]; exact h2)]
  · rw [List.getElem?_eq_none (by simp; omega), List.getElem?_eq_none (by rw [flat_length]; simp; omega)]
end
theorem HB.holds {w : World} {b : Nat} {E : TypeId} {F : Array Value} {re : List Value} (h : HB w b E (F.toList ++ re)) : Holds id w b 0 F := fun j hj => by
  unfold HB at h
  have h1 : (F.toList ++ re)[j]? = some F[j] := by
    rw [List.getElem?_append_left (by simpa using hj)]
    simp [hj]
  constructor
  · rw [Nat.zero_add]
    have h2 : (F.toList ++ re).toArray[j]? = some F[j] := by simpa using h1
    simp only [World.cell?, h]
    rw [h2, getElem!_pos F j hj]
    rfl
  · simp [World.frozen?, h]
theorem HB.putRow {w : World} {b : Nat} {E : TypeId} {xs re : List Value} (h : HB w b E (xs ++ re)) (F : Array Value) (hF : F.size = xs.length) : HB (Sort.putRow id w b 0 F) b E (F.toList ++ re) := by
  unfold HB at h ⊢
  unfold Sort.putRow mapBlock
  have hlt : b < w.heap.size := (Array.getElem?_eq_some_iff.1 h).1
  simp only [Array.getElem?_modify, if_true, h, Option.map_some, onCells]
  congr 2
  apply Array.ext_getElem?
  intro j
  simp only [putCells, Array.getElem?_mapIdx, List.getElem?_toArray]
  by_cases hj : j < F.size
  · rw [List.getElem?_append_left (by omega), List.getElem?_append_left (by simpa using hj)]
    rw [List.getElem?_eq_getElem (by omega)]
    simp [hj]
  · rw [List.getElem?_append_right (by omega), List.getElem?_append_right (by simpa using hj)]
    have e : (F.toList).length = xs.length := by simpa using hF
    rw [e]
    cases (re[j - xs.length]?) with
    | none => rfl
    | some v => simp; omega
theorem putRow_ext (w : World) (b m : Nat) (F : Array Value) (os : Array Obj) : Ext (fun i => i = b) w (grow (Sort.putRow id (Sort.ahead w m) b 0 F) os) := by
  refine ⟨rfl, rfl, rfl, ?_, fun k hk hn => ?_⟩
  · simp [grow, Sort.putRow, mapBlock]
  · unfold grow Sort.putRow mapBlock
    rw [Array.getElem?_append_left (by simpa using hk)]
    rw [Array.getElem?_modify, if_neg (fun e => hn e.symm)]
    rfl
theorem HB.grow {w : World} {b : Nat} {E : TypeId} {xs : List Value} (h : HB w b E xs) (os : Array Obj) : HB (Sort.grow w os) b E xs := by
  unfold HB at h ⊢
  unfold Sort.grow
  rw [Array.getElem?_append_left (Array.getElem?_eq_some_iff.1 h).1]
  exact h
theorem HB.ahead {w : World} {b : Nat} {E : TypeId} {xs : List Value} (h : HB w b E xs) (m : Nat) : HB (Sort.ahead w m) b E xs := h
end Go.Sx
namespace Go.Sx
open Go Go.Proofs Go.Sort
set_option maxRecDepth 10000
section
variable {M : Mode} {P : Program} {n : Nat} {ds : Dx} {ops : Array Oper} {Q : Exit → Act → World → Prop} {b : Bool} {rest : Tr} {l : List (Nat × Value)} {w : World}
variable {ty : TypeId} {pos : String} {af : Array Edge} {g : Option (Nat × Bool)}
/-- A struct is laid into a new variable: just what the world is then. -/
theorem l_boxX {d : Nat} {T : TypeId} {x : Operand} {cs : List Value} (hb : (M.any || !b) = true) (hg : gOk ops l g = true) (hd : Nat.blt d n = true) (hx : ev l x = some (.agg cs.toArray))
    (hc : M.chk (w.alloc (.cells cs.toArray T))) (h : LJ M P n ds ops Q rest ((d, .pointer (some ⟨w.heap.size, 0, none⟩)) :: l) (w.alloc (.cells cs.toArray T))) :
    LJ M P n ds ops Q (.one b ⟨some d, .box T x, ty, pos, af, g⟩ rest) l w := by
  refine l_e hb hg hd (v := .pointer (some ⟨w.heap.size, 0, none⟩)) (fun ρ hρ => ?_) hc h
  simp [execOp, hρ _ _ hx, Instr.box, newVar, newRow, Value.cells]
end
theorem cover1_x (w : World) (x y : Rg) (hx : By w x.la x.lc x.lo) (hy : By w y.la y.lc y.lo) :
    Fn Tryz.prog 84 #[.agg x.cells.toArray, .agg y.cells.toArray] w (fun v w' => v = .int .i64 (cmp x.lo y.lo) ∧ ∃ q os', w' = Sort.grow (w.drewN q) os') := by
  refine fn_enter Tryz.func84 rfl rfl rfl ?_
  refine sxo ?_
  refine l_boxX rfl rfl rfl rfl trivial ?_
  refine l_boxX rfl rfl rfl rfl trivial ?_
  have hN1 := New.mk' w 53 x.cells
  have hN2 := New.mk' (w.alloc (.cells x.cells.toArray 53)) 53 y.cells
  have hb1 := hN1.hb.ex hN2.ex
  have hb2 := hN2.hb
  have hx2 := (hx.ex hN1.ex).ex hN2.ex
  have hy2 := (hy.ex hN1.ex).ex hN2.ex
  refine sxo ?_
  refine l_call rfl rfl rfl rfl (compare_x _ _ _ _ _ _ _ hx2 hy2) ?_
  rintro _ w2 ⟨rfl, q, rfl⟩
  refine ⟨trivial, ?_⟩
  refine sxo ?_
  refine q_ret1 rfl rfl ⟨rfl, q, #[.cells x.cells.toArray 53, .cells y.cells.toArray 53], ?_⟩
  rw [alloc_eq_grow, alloc_eq_grow, grow_grow]
  rfl
theorem perm_list {α : Type} [Inhabited α] {d d' : Array α} (h : PermIn 0 d.size d d') : d.toList.Perm d'.toList := by
  obtain ⟨h1, _, h3⟩ := h
  have e1 : (d'.extract 0 d.size).toList = d'.toList := by rw [← h1]; simp
  have e2 : (d.extract 0 d.size).toList = d.toList := by simp
  rw [e1, e2] at h3
  exact h3.symm
theorem sort_go (w : World) (blk c : Nat) (rs : List Rg) (re : List Value) (G : Rg → Prop) (h0 : G rg0) (hr : ∀ r ∈ rs, G r) (hrd : ∀ W, Ext (fun i => i = blk) w W → ∀ r, G r → By W r.la r.lc r.lo)
    (hB : HB w blk 53 (flat rs ++ re)) (hl : rs.length < 4611686018427387904) :
    Fn Tryz.prog 83 #[.slice (some ⟨blk, 0, none⟩) rs.length c, .func (.func 84) #[] #[]] w (fun v w' => v = .tuple #[] ∧ ∃ rs', rs.Perm rs' ∧ rs'.Pairwise (fun x y => cmp x.lo y.lo ≤ 0) ∧ HB w' blk 53 (flat rs' ++ re) ∧ Ext (fun i => i = blk) w w') := by
  haveI : Inhabited {x : Rg // G x} := ⟨⟨rg0, h0⟩⟩
  let d : Array {x : Rg // G x} := (rs.pmap Subtype.mk hr).toArray
  have hdl : d.toList.map Subtype.val = rs := by simp [d, List.map_pmap]
  have hds : d.size = rs.length := by simp [d]
  have hF : (flatK (encS G) 3 d).toList = flat rs := by
    have := flatK_flat (G := G) d
    rw [hdl] at this
    exact this
  have hH : HoldsK (encS G) 3 w blk 0 d := by
    rw [← hF] at hB
    exact hB.holds
  let cf : {x : Rg // G x} → {x : Rg // G x} → Int := fun x y => cmp x.1.lo y.1.lo
  have hlt : ∀ x y, ltOf cf x y = decide (cmp x.1.lo y.1.lo < 0) := fun _ _ => rfl
  have hO : SWO (ltOf cf) := {
    irrefl := fun x => by rw [hlt, (cmp_eq x.1.lo x.1.lo).2 rfl]; rfl,
    trans := fun x y z h1 h2 => by
      rw [hlt, decide_eq_true_eq] at *
      exact (cmp_lt_trans x.1.lo y.1.lo z.1.lo (by omega) (by omega)).2 (.inl h1),
    ntrans := fun x y z h1 h2 => by
      rw [hlt, decide_eq_false_iff_not] at *
      have a1 := cmp_anti x.1.lo y.1.lo
      have a2 := cmp_anti y.1.lo z.1.lo
      have a3 := cmp_anti x.1.lo z.1.lo
      have := (cmp_lt_trans z.1.lo y.1.lo x.1.lo (by omega) (by omega)).1
      omega }
  have hcmp : CmpLays Tryz.prog 84 #[] (encS G) 3 cf blk 0 d.size w := fun m os dk hs x y => by
    have hX := putRow_ext w blk m (flatK (encS G) 3 dk) os
    have h := cover1_x (sortWorldK (encS G) 3 w blk 0 m dk os) x.1 y.1 (hrd _ hX x.1 x.2) (hrd _ hX y.1 y.2)
    rw [Array.append_empty]
    refine Calls.mono h ?_
    rintro e w' ⟨v, he, rfl, q, os', hw⟩
    exact ⟨he, q, os', hw⟩
  have hcon := AnyQ.slices_SortFunc Tryz.sortRg 3 (fun w => AgT.agg (T := 53) w) (fun w => AgT.size (T := 53) w) (encS G) (fun x => Cel.len x.1) (fun x v hv => List.all_eq_true.1 (Cel.one x.1) v hv) cf hO 84 #[] blk 0 c d w (fun args w => FnT.run args w) hcmp hH hB.lt (by rw [hds]; exact hl)
  rw [hds] at hcon
  refine Calls.mono hcon ?_
  rintro e w' ⟨he, d', n, os, hp, hs, rfl⟩
  have hp2 := perm_list (by rw [hds]; exact hp)
  have hsz : d'.size = rs.length := by have := hp2.length_eq; simp at this; omega
  refine ⟨_, he, rfl, d'.toList.map Subtype.val, ?_, ?_, ?_, putRow_ext w blk n (flatK (encS G) 3 d') os⟩
  · rw [← hdl]
    exact hp2.map _
  · rw [List.pairwise_map, List.pairwise_iff_getElem]
    intro i j hi hj hij
    have h := hs i j (Nat.zero_le _) hij (by simpa [hsz] using hj)
    rw [hlt, decide_eq_false_iff_not] at h
    have hi' : i < d'.size := by simpa using hi
    have hj' : j < d'.size := by simpa using hj
    rw [getElem!_pos d' i hi', getElem!_pos d' j hj'] at h
    have := cmp_anti (d'[j]'hj').1.lo (d'[i]'hi').1.lo
    simp only [Array.getElem_toList]
    omega
  · have hF2 := flatK_flat (G := G) d'
    rw [← hF2]
    refine HB.grow ?_ os
    exact HB.putRow (HB.ahead hB n) (flatK (encS G) 3 d') (by rw [size_flatK, hsz, flat_length]; rfl)
end Go.Sx

