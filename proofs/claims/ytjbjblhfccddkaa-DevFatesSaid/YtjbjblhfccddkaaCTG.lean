/- Part of a proof: the numbers of a device's blocks, rising: slices.Sorted(maps.Keys(..)), by the shelf. -/
import Derived.Test.YtjbjblhfccddkaaCTF
import Derived.Shelf.SlIterI.Nil
import Derived.Shelf.SortM.Plain
import Derived.Shelf.SortM.SortNone
namespace Go.Proofs
open Go.RowKit Go.Maps Go.Sort Go.Shelf
def Try.keysA_ren : Go.Shelf.Ren := ⟨fun | 7 => 40 | 10 => 51 | n => n, fun | 23 => 71 | 26 => 3 | 3 => 75 | 28 => 90 | 0 => 0 | 27 => 89 | 33 => 99 | 4 => 4 | n => n, fun | n => n⟩
theorem Try.keysA : Go.Proofs.SlLaysZI.n7 Try.prog Try.keysA_ren where
  mixed := by kernel_rfl
  f7 := ⟨"maps.Keys[map[int]*banyan/dev.block,int,*banyan/dev.block]", by decide, Try.func40.trans (congrArg some (by kernel_rfl))⟩
  f10 := ⟨"maps.Keys[map[int]*banyan/dev.block,int,*banyan/dev.block]$1", by decide, Try.func51.trans (congrArg some (by kernel_rfl))⟩
  t0 := Try.underlying0
  a0 := Try.isAgg0
  z0 := Try.sizeOf0
  v0 := Try.zeroValue0
  t4 := Try.underlying4
  a4 := Try.isAgg4
  z4 := Try.sizeOf4
  v4 := Try.zeroValue4
  t23 := Try.underlying71
  a23 := Try.isAgg71
  z23 := Try.sizeOf71
  v23 := Try.zeroValue71
  t26 := Try.underlying3
  a26 := Try.isAgg3
  z26 := Try.sizeOf3
  v26 := Try.zeroValue3
  t27 := Try.underlying89
  a27 := Try.isAgg89
  z27 := Try.sizeOf89
  v27 := Try.zeroValue89
  t28 := Try.underlying90
  a28 := Try.isAgg90
  z28 := Try.sizeOf90
  v28 := Try.zeroValue90
  t33 := Try.underlying99
  a33 := Try.isAgg99
  z33 := Try.sizeOf99
  v33 := Try.zeroValue99
def Try.sortedA_ren : Go.Shelf.Ren := ⟨fun | 6 => 39 | 8 => 49 | 9 => 50 | 11 => 59 | 13 => 61 | 12 => 60 | 23 => 71 | 24 => 72 | 14 => 62 | 15 => 63 | 16 => 64 | 17 => 65 | 18 => 66 | 19 => 67 | 20 => 68 | 21 => 69 | 22 => 70 | 25 => 73 | 26 => 74 | 27 => 75 | 28 => 76 | 29 => 77 | 30 => 78 | 31 => 79 | n => n, fun | 26 => 3 | 28 => 90 | 24 => 24 | 0 => 0 | 3 => 3 | 37 => 100 | 48 => 66 | 50 => 72 | 4 => 4 | 40 => 110 | 39 => 109 | 45 => 115 | 5 => 5 | 9 => 9 | 51 => 119 | 55 => 123 | 57 => 125 | 58 => 25 | 33 => 99 | n => n, fun | n => n⟩
theorem Try.sortedA : Go.Proofs.SlLaysZI.n6 Try.prog Try.sortedA_ren where
  mixed := by kernel_rfl
  f6 := ⟨"slices.Sorted[int]", by decide, Try.func39.trans (congrArg some (by kernel_rfl))⟩
  f8 := ⟨"slices.Collect[int]", by decide, Try.func49.trans (congrArg some (by kernel_rfl))⟩
  f11 := ⟨"slices.AppendSeq[[]int,int]", by decide, Try.func59.trans (congrArg some (by kernel_rfl))⟩
  t0 := Try.underlying0
  a0 := Try.isAgg0
  z0 := Try.sizeOf0
  v0 := Try.zeroValue0
  t24 := Try.underlying24
  a24 := Try.isAgg24
  z24 := Try.sizeOf24
  v24 := Try.zeroValue24
  t26 := Try.underlying3
  a26 := Try.isAgg3
  z26 := Try.sizeOf3
  v26 := Try.zeroValue3
  t28 := Try.underlying90
  a28 := Try.isAgg90
  z28 := Try.sizeOf90
  v28 := Try.zeroValue90
  i26 := by kernel_rfl
def Try.sortA_ren : Go.Shelf.Ren := ⟨fun | 5 => 50 | 8 => 61 | 7 => 60 | 19 => 71 | 20 => 72 | 10 => 62 | 11 => 63 | 12 => 64 | 13 => 65 | 14 => 66 | 15 => 67 | 16 => 68 | 17 => 69 | 18 => 70 | 30 => 73 | 31 => 74 | 32 => 75 | 33 => 76 | 34 => 77 | 35 => 78 | 40 => 79 | n => n, fun | 23 => 24 | 25 => 3 | 3 => 3 | 32 => 100 | 22 => 24 | 0 => 0 | 44 => 66 | 46 => 72 | 4 => 4 | 36 => 110 | 35 => 109 | 41 => 115 | 5 => 5 | 9 => 9 | 53 => 119 | 57 => 123 | 63 => 125 | 64 => 25 | n => n, fun | n => n⟩
theorem Try.sortA : Go.Proofs.SlLaysM.n5 Try.prog Try.sortA_ren where
  mixed := by kernel_rfl
  f5 := ⟨"slices.Sort[[]int,int]", by decide, Try.func50.trans (congrArg some (by kernel_rfl))⟩
  f7 := ⟨"slices.pdqsortOrdered[int]", by decide, Try.func60.trans (congrArg some (by kernel_rfl))⟩
  f8 := Try.func61.trans (congrArg some (by kernel_rfl))
  f10 := ⟨"slices.insertionSortOrdered[int]", by decide, Try.func62.trans (congrArg some (by kernel_rfl))⟩
  f11 := ⟨"slices.heapSortOrdered[int]", by decide, Try.func63.trans (congrArg some (by kernel_rfl))⟩
  f12 := ⟨"slices.breakPatternsOrdered[int]", by decide, Try.func64.trans (congrArg some (by kernel_rfl))⟩
  f13 := ⟨"slices.choosePivotOrdered[int]", by decide, Try.func65.trans (congrArg some (by kernel_rfl))⟩
  f14 := ⟨"slices.reverseRangeOrdered[int]", by decide, Try.func66.trans (congrArg some (by kernel_rfl))⟩
  f15 := ⟨"slices.partialInsertionSortOrdered[int]", by decide, Try.func67.trans (congrArg some (by kernel_rfl))⟩
  f16 := ⟨"cmp.Less[int]", by decide, Try.func68.trans (congrArg some (by kernel_rfl))⟩
  f17 := ⟨"slices.partitionEqualOrdered[int]", by decide, Try.func69.trans (congrArg some (by kernel_rfl))⟩
  f18 := ⟨"slices.partitionOrdered[int]", by decide, Try.func70.trans (congrArg some (by kernel_rfl))⟩
  f19 := Try.func71.trans (congrArg some (by kernel_rfl))
  f20 := Try.func72.trans (congrArg some (by kernel_rfl))
  f30 := ⟨"slices.siftDownOrdered[int]", by decide, Try.func73.trans (congrArg some (by kernel_rfl))⟩
  f31 := Try.func74.trans (congrArg some (by kernel_rfl))
  f32 := Try.func75.trans (congrArg some (by kernel_rfl))
  f33 := ⟨"slices.medianAdjacentOrdered[int]", by decide, Try.func76.trans (congrArg some (by kernel_rfl))⟩
  f34 := ⟨"slices.medianOrdered[int]", by decide, Try.func77.trans (congrArg some (by kernel_rfl))⟩
  f35 := ⟨"cmp.isNaN[int]", by decide, Try.func78.trans (congrArg some (by kernel_rfl))⟩
  f40 := ⟨"slices.order2Ordered[int]", by decide, Try.func79.trans (congrArg some (by kernel_rfl))⟩
  t0 := Try.underlying0
  a0 := Try.isAgg0
  z0 := Try.sizeOf0
  v0 := Try.zeroValue0
  t3 := Try.underlying3
  a3 := Try.isAgg3
  z3 := Try.sizeOf3
  v3 := Try.zeroValue3
  t4 := Try.underlying4
  a4 := Try.isAgg4
  z4 := Try.sizeOf4
  v4 := Try.zeroValue4
  t5 := Try.underlying5
  a5 := Try.isAgg5
  z5 := Try.sizeOf5
  v5 := Try.zeroValue5
  t9 := Try.underlying9
  a9 := Try.isAgg9
  z9 := Try.sizeOf9
  v9 := Try.zeroValue9
  t22 := Try.underlying24
  a22 := Try.isAgg24
  z22 := Try.sizeOf24
  v22 := Try.zeroValue24
  t23 := Try.underlying24
  a23 := Try.isAgg24
  z23 := Try.sizeOf24
  v23 := Try.zeroValue24
  t25 := Try.underlying3
  a25 := Try.isAgg3
  z25 := Try.sizeOf3
  v25 := Try.zeroValue3
  t32 := Try.underlying100
  a32 := Try.isAgg100
  z32 := Try.sizeOf100
  v32 := Try.zeroValue100
  t35 := Try.underlying109
  a35 := Try.isAgg109
  z35 := Try.sizeOf109
  v35 := Try.zeroValue109
  t36 := Try.underlying110
  a36 := Try.isAgg110
  z36 := Try.sizeOf110
  v36 := Try.zeroValue110
  t41 := Try.underlying115
  a41 := Try.isAgg115
  z41 := Try.sizeOf115
  v41 := Try.zeroValue115
  t44 := Try.underlying66
  a44 := Try.isAgg66
  z44 := Try.sizeOf66
  v44 := Try.zeroValue66
  t46 := Try.underlying72
  a46 := Try.isAgg72
  z46 := Try.sizeOf72
  v46 := Try.zeroValue72
  t53 := Try.underlying119
  a53 := Try.isAgg119
  z53 := Try.sizeOf119
  v53 := Try.zeroValue119
  t57 := Try.underlying123
  a57 := Try.isAgg123
  z57 := Try.sizeOf123
  v57 := Try.zeroValue123
  t63 := Try.underlying125
  a63 := Try.isAgg125
  z63 := Try.sizeOf125
  v63 := Try.zeroValue125
  t64 := Try.underlying25
  a64 := Try.isAgg25
  z64 := Try.sizeOf25
  v64 := Try.zeroValue25

/-- slices.Sort's two contracts here, at the fence that asks nothing. -/
theorem Try.sortsA (m : Nat) : AnyZI.SortsIn Try.prog Try.sortedA_ren Fence.wide m :=
  ⟨fun blk off cap ss W hH hblk hsz => callsIn_wide.2 (AnyM.slices_Sort_int Try.sortA blk off cap ss W hH hblk hsz),
   fun p cap W => callsIn_wide.2 (AnyM.slices_Sort_int_none Try.sortA p cap W)⟩
end Go.Proofs
namespace Go.Sx
open Go Go.Proofs
set_option maxRecDepth 10000
variable {w0 : World} {H : List Ck}
/-- The kit's word for such a map: its keys. -/
theorem MapIs.owns {P : Program} {w : World} {b : Nat} {kvs : List (Int × Value)} {k : TypeId} (h : MapIs w b kvs) (hk : P.underlying k = some (.int .i64)) (hl : kvs.length ≤ maxLen) :
    ∃ D : DataW Unit, w.ownsMap P k (fun _ => some (.lit (.bool false), [])) b kvs.length D ∧ (intKeys D).Perm (kvs.map Prod.fst) ∧ Maps.size D = kvs.length := by
  obtain ⟨es, c, hb, hm, hs, hw⟩ := h
  have hlen : es.toList.length = kvs.length := by have := congrArg List.length hm; simpa using this
  have hrd : ∀ x ∈ es.toList, ∃ a : Int, x.key = .int .i64 a ∧ Wk a := by
    intro x hx
    obtain ⟨j, hj⟩ := List.getElem?_of_mem hx
    obtain ⟨p, hp, h1, _⟩ := pair_at hm hj
    exact ⟨p.1, h1, hw p (List.mem_of_getElem? hp)⟩
  have hrg : ∀ x ∈ es.toList, ∀ a : Int, x.key = .int .i64 a → Wk a → WideElems.rd P k (fun _ => some ((.lit (.bool false) : DataW Unit), [])) x = some (.int .i64 a, .lit (.bool false)) := by
    intro x _ a ha hwa
    simp only [WideElems.rd, ha, Maps.keyOf_int_mk hk hwa, Option.bind_some, Option.map_some]
  refine ⟨.map ((es.toList.map (WideElems.rg P k (fun _ => some ((.lit (.bool false) : DataW Unit), [])))).foldr DataW.insert []), ⟨es, c, hb, ⟨by rw [← Array.length_toList, hlen]; exact hl, hs, fun x hx => ?_⟩, by rw [← Array.length_toList, hlen]; exact Nat.le_refl _, rfl⟩, ?_, ?_⟩
  · obtain ⟨a, ha, hwa⟩ := hrd x hx
    exact ⟨_, hrg x hx a ha hwa⟩
  · have h1 : (intKeys (.map ((es.toList.map (WideElems.rg P k (fun _ => some ((.lit (.bool false) : DataW Unit), [])))).foldr DataW.insert []))).Perm ((es.toList.map (WideElems.rg P k (fun _ => some ((.lit (.bool false) : DataW Unit), [])))).map fun p => intOf p.1) := (WideShapes.sorted_perm _).map _
    refine h1.trans (List.Perm.of_eq ?_)
    apply List.ext_getElem?
    intro j
    simp only [List.getElem?_map]
    cases hj : es.toList[j]? with
    | none =>
      have : kvs[j]? = none := by rw [List.getElem?_eq_none_iff] at hj ⊢; omega
      rw [this]; rfl
    | some x =>
      obtain ⟨p, hp, h1, _⟩ := pair_at hm hj
      have h3 := hrg x (List.mem_of_getElem? hj) p.1 h1 (hw p (List.mem_of_getElem? hp))
      rw [hp]
      simp only [Option.map_some, WideElems.rg, h3, Option.getD_some, intOf]
  · simp [Maps.size, length_sorted, hlen]
theorem nodup_le : ∀ (n : Nat) (l : List Int), l.Nodup → (∀ a ∈ l, 0 ≤ a ∧ a < n) → l.length ≤ n
  | 0, l, _, h => by
    cases l with
    | nil => exact Nat.le_refl _
    | cons a l => have := h a (by simp); omega
  | n + 1, l, hn, h => by
    have h1 : (l.erase (n : Int)).length ≤ n := nodup_le n _ (hn.erase _) (fun a ha => by
      have h2 := h a (List.mem_of_mem_erase ha)
      have h3 : a ≠ n := fun e => (hn.mem_erase_iff.1 ha).1 e
      omega)
    rw [List.length_erase] at h1
    split at h1 <;> omega
theorem Cd.Ok.es_le {N : Nat} {c : Cd} (h : c.Ok N) : c.es.length ≤ 65536 := by
  have := nodup_le c.n (c.es.map Be.n) h.nodup (fun a ha => by
    obtain ⟨e, he, rfl⟩ := List.mem_map.1 ha
    exact h.dom e he)
  have h2 := h.nn
  simp at this
  omega
/-- maps.Keys. -/
theorem keys_s {m : Nat} : FnS Try.prog w0 H 40 #[.map (some m)] (fun v K => ∃ b, v = .func (.func 51) #[] #[.pointer (some ⟨b, 0, none⟩)] ∧ K = .hb b 71 [.map (some m)] :: H) := fun w hs => by
  have h := AnyZI.keys_in Try.keysA Fence.wide 5 trivial rfl (some m) w
  refine ((callsIn_wide (n := 5)).1 h).mono ?_
  rintro e w' ⟨rfl, rfl⟩
  have hN : Sat w0 (.hb w.heap.size 71 [.map (some m)] :: H) (w.alloc (.cells #[.map (some m)] 71)) := hs.new (Ext.alloc _ _) (fun i => i = w.heap.size) (fun i hi => by subst hi; simp) ⟨(MapKept.heap_alloc w _).1, rfl⟩
  exact ⟨_, rfl, _, ⟨_, rfl, rfl⟩, hN⟩
/-- slices.Sorted of them. -/
theorem sorted_s {b m : Nat} {kvs : List (Int × Value)} (hb : ∀ w, Sat w0 H w → HB w b 71 [.map (some m)]) (hm : RMk w0 H m kvs) (hl : kvs.length ≤ 65536) :
    FnS Try.prog w0 H 39 #[.func (.func 51) #[] #[.pointer (some ⟨b, 0, none⟩)]] (fun v K => ∃ (a : Option Addr) (c : Nat) (ss : List Int), ss.Perm (kvs.map Prod.fst) ∧ ss.Pairwise (· ≤ ·) ∧ v = .slice a ss.length c ∧ K = ol 3 a c ss :: H) := fun w hs => by
  have hB := hb w hs
  obtain ⟨D, ho, hp, hz⟩ := (hm w hs).owns (P := Try.prog) (k := 3) (by kernel_rfl) (by simp only [maxLen]; omega)
  have hseq : SeqGives Fence.wide 2 Try.prog 51 #[.pointer (some ⟨b, 0, none⟩)] encZ (fun ss => ss.Perm (intKeys D)) (Maps.size D) w :=
    AnyZI.keys_gives (ρ := Try.keysA_ren) { Try.keysA with } Fence.wide _ trivial rfl (by omega) b m kvs.length D _ hB.lt (hB.cell0 rfl) ho
  have cS := AnyZI.sorted_in Try.sortedA Fence.wide 5 trivial trivial trivial trivial rfl (by omega) (Try.sortsA _) (enters_of Try.func50 (by kernel_rfl) rfl) 51 #[.pointer (some ⟨b, 0, none⟩)] trivial (enters_of Try.func51 (by kernel_rfl) rfl) _ (Maps.size D) (by rw [hz]; simp only [maxLen]; omega) (by rw [hz]; omega) _ hseq
  refine ((callsIn_wide (n := 5)).1 cS).mono ?_
  rintro e w' ⟨v, ss, rfl, hS, hrow, hnil, hbel⟩
  have hE : Ex w w' := ⟨hbel.os, hbel.tape, hbel.output, hbel.size, fun i hi _ => hbel.block i hi⟩
  have hlen : (ss.mergeSort (fun x y => decide (x ≤ y))).length = ss.length := List.length_mergeSort ..
  obtain ⟨a, cc, rfl⟩ : ∃ a cc, v = .slice a ss.length cc := by
    rcases hrow.2 with ⟨rfl, h0⟩ | ⟨g, cap, cur, rfl, _⟩
    · exact ⟨none, 0, by rw [h0]⟩
    · exact ⟨_, _, rfl⟩
  have hO := Own.of_row hrow
  have hfl : ∀ l : List Int, flat l = l.map encZ := fun l => by
    induction l with
    | nil => rfl
    | cons x l ih => simp only [flat, List.flatMap_cons, List.map_cons] at *; rw [ih]; rfl
  rw [← hlen, ← hfl] at hO
  refine ⟨_, rfl, _, ⟨a, cc, ss.mergeSort (fun x y => decide (x ≤ y)), ?_, ?_, by rw [hlen], rfl⟩, Own.sat hO hs hE⟩
  · exact ((List.mergeSort_perm ss _).trans hS).trans hp
  · have := List.pairwise_mergeSort (le := fun x y : Int => decide (x ≤ y)) (fun a b c h1 h2 => by simp only [decide_eq_true_eq] at *; omega) (fun a b => by simp only [Bool.or_eq_true, decide_eq_true_eq]; omega) ss
    exact this.imp fun h => by simpa using h
end Go.Sx
