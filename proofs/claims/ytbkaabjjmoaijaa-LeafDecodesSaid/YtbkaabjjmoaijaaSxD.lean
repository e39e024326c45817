/- Part four: what operations do that act: new variables, stores, make, append, calls. -/
import Derived.Test.YtbkaabjjmoaijaaSxC
namespace Go.Sx
open Go

/-! ### Blocks of one's own -/
/-- Block b is a row of cells of type T that hold vs; none is frozen. -/
def HB (w : World) (b : Nat) (T : TypeId) (vs : List Value) : Prop := w.heap[b]? = some (.cells vs.toArray T (0, 0))
theorem HB.lt {w : World} {b : Nat} {T : TypeId} {vs : List Value} (h : HB w b T vs) : b < w.heap.size := (Array.getElem?_eq_some_iff.1 h).1
theorem HB.ext {G : Nat → Prop} {w w' : World} {b : Nat} {T : TypeId} {vs : List Value} (h : HB w b T vs) (he : Ext G w w') (hn : ¬ G b) : HB w' b T vs := by
  unfold HB
  rw [he.block b h.lt hn]; exact h
theorem HB.ex {w w' : World} {b : Nat} {T : TypeId} {vs : List Value} (h : HB w b T vs) (he : Ex w w') : HB w' b T vs := h.ext he (fun h => h)
theorem HB.cell {w : World} {b : Nat} {T : TypeId} {vs : List Value} (h : HB w b T vs) (i : Nat) {v : Value} (hv : vs[i]? = some v) : w.cell? ((⟨b, 0, none⟩ : Addr).add i) = some v := by
  have : (⟨b, 0, none⟩ : Addr).add i = ⟨b, i, none⟩ := by unfold Addr.add; split <;> simp_all
  rw [this]
  unfold HB at h
  simp [World.cell?, h, hv]
theorem HB.cell0 {w : World} {b : Nat} {T : TypeId} {vs : List Value} (h : HB w b T vs) {v : Value} (hv : vs[0]? = some v) : w.cell? ⟨b, 0, none⟩ = some v := h.cell 0 hv
theorem HB.cells {w : World} {b : Nat} {T : TypeId} {vs : List Value} (h : HB w b T vs) : Cells w ⟨b, 0, none⟩ vs := fun i _ hi => h.cell i hi
theorem HB.frozen {w : World} {b : Nat} {T : TypeId} {vs : List Value} (h : HB w b T vs) (i : Nat) : w.frozen? ((⟨b, 0, none⟩ : Addr).add i) = false := by
  have : (⟨b, 0, none⟩ : Addr).add i = ⟨b, i, none⟩ := by unfold Addr.add; split <;> simp_all
  rw [this]
  unfold HB at h
  simp [World.frozen?, h]
/-- A world that differs only in its count of draws, or in nothing. -/
theorem HB.heap {w w' : World} {b : Nat} {T : TypeId} {vs : List Value} (h : HB w b T vs) (he : w'.heap = w.heap) : HB w' b T vs := by
  unfold HB; rw [he]; exact h

/-- A new block. -/
structure New (w w' : World) (b : Nat) (T : TypeId) (vs : List Value) : Prop where
  at_ : b = w.heap.size
  sz : w'.heap.size = w.heap.size + 1
  ex : Ex w w'
  hb : HB w' b T vs
theorem New.mk' (w : World) (T : TypeId) (vs : List Value) : New w (w.alloc (.cells vs.toArray T)) w.heap.size T vs :=
  ⟨rfl, by simp, Ext.alloc w _, heap_alloc_new w _⟩

/-- A slice of one's own: nil, or the head of a row in a block from B on. -/
def Own (w : World) (B E sz : Nat) (a : Option Addr) (n c : Nat) (xs : List Value) : Prop := w.ownsRow B E sz (.slice a n c) n xs
theorem Own.nil (w : World) (B E sz : Nat) : Own w B E sz none 0 0 [] := World.ownsRow_nil w B E sz
theorem Own.len {w : World} {B E sz : Nat} {a : Option Addr} {n c : Nat} {xs : List Value} (h : Own w B E sz a n c xs) : xs.length = n * sz := h.1
/-- Own, opened: nil, or the row. -/
theorem Own.open {w : World} {B E sz : Nat} {a : Option Addr} {n c : Nat} {xs : List Value} (h : Own w B E sz a n c xs) :
    (a = none ∧ n = 0 ∧ c = 0 ∧ xs = []) ∨ ∃ g rest, a = some ⟨g, 0, none⟩ ∧ B ≤ g ∧ HB w g E (xs ++ rest) ∧ n ≤ c ∧ c ≤ maxLen ∧ xs.length + rest.length = c * sz := by
  obtain ⟨hl, h | ⟨g, cap, cur, hv, hb, hg, h1, h2, h3, h4⟩⟩ := h
  · obtain ⟨h1, h2⟩ := h
    simp only [Value.slice.injEq] at h1
    obtain ⟨rfl, h3, h4⟩ := h1
    subst h2
    exact .inl ⟨rfl, rfl, h4, List.eq_nil_of_length_eq_zero (by simpa using hl)⟩
  · simp only [Value.slice.injEq] at hv
    obtain ⟨rfl, _, rfl⟩ := hv
    refine .inr ⟨g, cur.toList.drop (n * sz), rfl, hb, ?_, h1, h2, ?_⟩
    · rw [← h4, List.take_append_drop]; exact hg
    · rw [hl]; simp [h3]; have := Nat.mul_le_mul_right sz h1; omega
theorem Own.mk {w : World} {B E sz g n c : Nat} {xs rest : List Value} (hb : B ≤ g) (hg : HB w g E (xs ++ rest)) (hl : xs.length = n * sz) (h1 : n ≤ c) (h2 : c ≤ maxLen) (h3 : xs.length + rest.length = c * sz) :
    Own w B E sz (some ⟨g, 0, none⟩) n c xs :=
  ⟨hl, .inr ⟨g, c, (xs ++ rest).toArray, rfl, hb, hg, h1, h2, by simp; omega, by simp [← hl]⟩⟩
theorem Own.ext {G : Nat → Prop} {w w' : World} {B E sz : Nat} {a : Option Addr} {n c : Nat} {xs : List Value} (h : Own w B E sz a n c xs) (he : Ext G w w') (hn : ∀ ad, a = some ad → ¬ G ad.block) : Own w' B E sz a n c xs := by
  obtain ⟨rfl, rfl, rfl, rfl⟩ | ⟨g, rest, rfl, hb, hg, h1, h2, h3⟩ := h.open
  · exact Own.nil ..
  · exact Own.mk hb (hg.ext he (hn _ rfl)) h.len h1 h2 h3
theorem Own.ex {w w' : World} {B E sz : Nat} {a : Option Addr} {n c : Nat} {xs : List Value} (h : Own w B E sz a n c xs) (he : Ex w w') : Own w' B E sz a n c xs := h.ext he (fun _ _ h => h)
theorem Own.ge {w : World} {B E sz : Nat} {ad : Addr} {n c : Nat} {xs : List Value} (h : Own w B E sz (some ad) n c xs) : B ≤ ad.block ∧ ad.block < w.heap.size := by
  obtain ⟨h, _⟩ | ⟨g, rest, h, hb, hg, _⟩ := h.open
  · cases h
  · cases h; exact ⟨hb, hg.lt⟩
theorem Own.mono {w : World} {B B' E sz : Nat} {a : Option Addr} {n c : Nat} {xs : List Value} (h : Own w B E sz a n c xs) (hB : B' ≤ B) : Own w B' E sz a n c xs := by
  obtain ⟨rfl, rfl, rfl, rfl⟩ | ⟨g, rest, rfl, hb, hg, h1, h2, h3⟩ := h.open
  · exact Own.nil ..
  · exact Own.mk (Nat.le_trans hB hb) hg h.len h1 h2 h3
theorem Own.cells {w : World} {B E sz : Nat} {ad : Addr} {n c : Nat} {xs : List Value} (h : Own w B E sz (some ad) n c xs) : Cells w ad xs := by
  obtain ⟨h, _⟩ | ⟨g, rest, h, hb, hg, _⟩ := h.open
  · cases h
  · cases h; intro i v hi; exact hg.cells i v (by rw [List.getElem?_append_left (List.getElem?_eq_some_iff.1 hi).1]; exact hi)
theorem Own.le {w : World} {B E sz : Nat} {a : Option Addr} {n c : Nat} {xs : List Value} (h : Own w B E sz a n c xs) : n ≤ c ∧ c ≤ maxLen := by
  obtain ⟨rfl, rfl, rfl, rfl⟩ | ⟨g, rest, rfl, hb, hg, h1, h2, h3⟩ := h.open
  · exact ⟨Nat.le_refl _, Nat.zero_le _⟩
  · exact ⟨h1, h2⟩
/-- Bytes of one's own read as bytes. -/
theorem Own.by {w : World} {B E : Nat} {a : Option Addr} {n c : Nat} {bs : List UInt8} (h : Own w B E 1 a n c (bs.map bv)) : n = bs.length ∧ By w a c bs := by
  have hl := h.len
  simp only [List.length_map, Nat.mul_one] at hl
  refine ⟨hl.symm, ⟨by have := h.le; omega, h.le.2, ?_, ?_⟩⟩
  · rintro rfl
    obtain ⟨_, _, h, _⟩ | ⟨g, rest, h, _⟩ := h.open
    · exact h
    · cases h
  · rintro ad rfl; exact h.cells

/-! ### Steps -/
section
variable {M : Mode} {P : Program} {n : Nat} {ds : List Deferred} {ops : Array Oper} {Q : Exit → Act → World → Prop} {b : Bool} {rest : Tr} {l : List (Nat × Value)} {w : World}
variable {ty : TypeId} {pos : String} {af : Array Edge} {g : Option (Nat × Bool)}

theorem l_box {d : Nat} {T : TypeId} {x : Operand} {v : Value} (hb : (M.any || !b) = true) (hg : gOk ops l g = true) (hd : Nat.blt d n = true) (hx : ev l x = some v)
    (h : ∀ k w', New w w' k T v.cells.toList → M.chk w' ∧ LJ M P n ds ops Q rest ((d, .pointer (some ⟨k, 0, none⟩)) :: l) w') :
    LJ M P n ds ops Q (.one b ⟨some d, .box T x, ty, pos, af, g⟩ rest) l w := by
  have hN := New.mk' w T v.cells.toList
  obtain ⟨h1, h2⟩ := h _ _ hN
  refine l_e hb hg hd (v := .pointer (some ⟨w.heap.size, 0, none⟩)) (fun ρ hρ => ?_) h1 h2
  simp [execOp, hρ _ _ hx, Instr.box, newVar, newRow]
theorem l_alloc {d : Nat} {T : TypeId} {z : Value} [hz : ZeT P T z] (hb : (M.any || !b) = true) (hg : gOk ops l g = true) (hd : Nat.blt d n = true)
    (h : ∀ k w', New w w' k T z.cells.toList → M.chk w' ∧ LJ M P n ds ops Q rest ((d, .pointer (some ⟨k, 0, none⟩)) :: l) w') :
    LJ M P n ds ops Q (.one b ⟨some d, .alloc T, ty, pos, af, g⟩ rest) l w := by
  have hN := New.mk' w T z.cells.toList
  obtain ⟨h1, h2⟩ := h _ _ hN
  refine l_e hb hg hd (v := .pointer (some ⟨w.heap.size, 0, none⟩)) (fun ρ hρ => ?_) h1 h2
  simp [execOp, Instr.alloc, newVar, newRow, hz.run]

/-- What a store of cells into block k leaves. -/
theorem store_row (P : Program) (k o : Nat) (T : TypeId) (vs cs : List Value) (hg : HB w k T vs) (hl : o + cs.length ≤ vs.length) (h1 : ∀ v ∈ cs, v.oneCell' = true) :
    ∃ w', (storeCells ((⟨k, 0, none⟩ : Addr).add o) cs).run P w = .ok () w' ∧ HB w' k T (vs.take o ++ cs ++ vs.drop (o + cs.length)) ∧ Ext (fun i => i = k) w w' ∧ w'.heap.size = w.heap.size := by
  have ha : (⟨k, 0, none⟩ : Addr).add o = ⟨k, o, none⟩ := by unfold Addr.add; split <;> simp_all
  rw [ha]
  have := run_storeCells_at P k o T cs 0 vs.toArray w hg (by simpa using hl) h1
  simp only [Nat.add_zero] at this
  refine ⟨_, this, ?_, ⟨rfl, rfl, rfl, by simp [World.setRow], fun i hi hn => setRow_other w k i _ hn⟩, by simp [World.setRow]⟩
  exact setRow_heap w k _ _ T (0, 0) hg

/-- A store of one cell. -/
theorem l_store {T : TypeId} [hs : ScT P T] {p x : Operand} {k o : Nat} {U : TypeId} {vs : List Value} {v : Value} (hb : (M.any || !b) = true) (hg : gOk ops l g = true)
    (hp : ev l p = some (.pointer (some ((⟨k, 0, none⟩ : Addr).add o)))) (hx : ev l x = some v) (hB : HB w k U vs) (ho : o < vs.length) (hv : v.oneCell' = true)
    (h : ∀ w', HB w' k U (vs.set o v) → Ext (fun i => i = k) w w' → w'.heap.size = w.heap.size → M.chk w' ∧ LJ M P n ds ops Q rest l w') :
    LJ M P n ds ops Q (.one b ⟨none, .store T p x, ty, pos, af, g⟩ rest) l w := by
  obtain ⟨w', h1, h2, h3, h4⟩ := store_row P k o U vs [v] hB (by simp; omega) (by simpa using hv)
  have hset : vs.take o ++ [v] ++ vs.drop (o + [v].length) = vs.set o v := by
    rw [List.set_eq_take_append_cons_drop, if_pos ho]; simp
  rw [hset] at h2
  obtain ⟨h5, h6⟩ := h w' h2 h3 h4
  refine l_u hb hg (fun ρ hρ => ?_) h5 h6
  have hc : v.cells = #[v] := by cases v <;> first | rfl | simp [Value.oneCell'] at hv
  simp [execOp, hρ _ _ hp, hρ _ _ hx, Instr.storeAt, Instr.sureAddr, storeVar, hc, hs.size, h1]
/-- A store of a struct (of sz cells) into a block. -/
theorem l_storeA {T : TypeId} {sz : Nat} [hs : AgT P T sz] {p x : Operand} {k o : Nat} {U : TypeId} {vs : List Value} {cs : List Value} (hb : (M.any || !b) = true) (hg : gOk ops l g = true)
    (hp : ev l p = some (.pointer (some ((⟨k, 0, none⟩ : Addr).add o)))) (hx : ev l x = some (.agg cs.toArray)) (hB : HB w k U vs) (ho : o + sz ≤ vs.length) (hz : cs.length = sz) (hv : cs.all Value.oneCell' = true)
    (h : ∀ w', HB w' k U (vs.take o ++ cs ++ vs.drop (o + sz)) → Ext (fun i => i = k) w w' → w'.heap.size = w.heap.size → M.chk w' ∧ LJ M P n ds ops Q rest l w') :
    LJ M P n ds ops Q (.one b ⟨none, .store T p x, ty, pos, af, g⟩ rest) l w := by
  subst hz
  obtain ⟨w', h1, h2, h3, h4⟩ := store_row P k o U vs cs hB ho (List.all_eq_true.1 hv)
  obtain ⟨h5, h6⟩ := h w' h2 h3 h4
  refine l_u hb hg (fun ρ hρ => ?_) h5 h6
  simp [execOp, hρ _ _ hp, hρ _ _ hx, Instr.storeAt, Instr.sureAddr, storeVar, hs.size, Value.cells, h1]

/-- make([]T, 0, c). -/
theorem l_make0 {d : Nat} {T E : TypeId} {sz by' : Nat} [hT : SlT P T E sz by'] {x y : Operand} {kx ky : IntKind} {c : Nat} (hb : (M.any || !b) = true) (hg : gOk ops l g = true) (hd : Nat.blt d n = true)
    (hx : ev l x = some (.int kx 0)) (hy : ev l y = some (.int ky c)) (h1 : by' * c ≤ 281474976710656) (h2 : c ≤ maxLen)
    (h : ∀ a w', Own w' w.heap.size E sz (some a) 0 c [] → Ex w w' → M.chk w' ∧ LJ M P n ds ops Q rest ((d, .slice (some a) 0 c) :: l) w') :
    LJ M P n ds ops Q (.one b ⟨some d, .makeSlice T x y, ty, pos, af, g⟩ rest) l w := by
  obtain ⟨i, z, i1, i2, i3, i4, i5⟩ := hT.info
  obtain ⟨w', r1, r2, r3⟩ := run_make_own (P := P) w w.heap.size T E i z sz hT.und i1 i2 i3 kx ky c (by rw [i4]; exact h1) h2 (Nat.le_refl _)
  obtain ⟨h5, h6⟩ := h _ w' r2 ((Ext.of_grown r3).mono (fun _ _ h => by cases h))
  refine l_e hb hg hd (fun ρ hρ => ?_) h5 h6
  simp [execOp, hρ _ _ hx, hρ _ _ hy, r1]
/-- make([]T, c). -/
theorem l_make {d : Nat} {T E : TypeId} {sz by' : Nat} [hT : SlT P T E sz by'] {z : Value} [hz : ZeT P E z] {x y : Operand} {kx ky : IntKind} {c : Nat} (hb : (M.any || !b) = true) (hg : gOk ops l g = true) (hd : Nat.blt d n = true)
    (hx : ev l x = some (.int kx c)) (hy : ev l y = some (.int ky c)) (h1 : by' * c ≤ 281474976710656) (h2 : c ≤ maxLen)
    (h : ∀ a w', Own w' w.heap.size E sz (some a) c c (madeCells z.cells (c * sz)).toList → Ex w w' → M.chk w' ∧ LJ M P n ds ops Q rest ((d, .slice (some a) c c) :: l) w') :
    LJ M P n ds ops Q (.one b ⟨some d, .makeSlice T x y, ty, pos, af, g⟩ rest) l w := by
  obtain ⟨i, z', i1, i2, i3, i4, i5⟩ := hT.info
  have hzz : z' = z := by
    have := hz.run w
    simp [zeroValue, typeInfo, i1, i2] at this
    exact this
  subst hzz
  obtain ⟨w', r1, r2, r3⟩ := run_make_full (P := P) w w.heap.size T E i z' sz hT.und i1 i2 i3 kx ky c (by rw [i4]; exact h1) h2 (Nat.le_refl _)
  obtain ⟨h5, h6⟩ := h _ w' r2 ((Ext.of_grown r3).mono (fun _ _ h => by cases h))
  refine l_e hb hg hd (fun ρ hρ => ?_) h5 h6
  simp [execOp, hρ _ _ hx, hρ _ _ hy, r1]

/-- What is appended: from a on (nil: nothing). -/
def Src (w : World) (a : Option Addr) (cs : List Value) : Prop := (a = none → cs = []) ∧ ∀ ad, a = some ad → Cells w ad cs
theorem By.src {w : World} {a : Option Addr} {c : Nat} {xs : List UInt8} (h : By w a c xs) : Src w a (xs.map bv) :=
  ⟨fun e => by have := h.nil e; have := h.le; rw [List.eq_nil_of_length_eq_zero (by omega : xs.length = 0)]; rfl, fun ad e => h.cells ad e⟩
theorem HB.src {w : World} {k : Nat} {T : TypeId} {vs : List Value} (h : HB w k T vs) : Src w (some ⟨k, 0, none⟩) vs := ⟨fun e => (by cases e), fun ad e => (by cases e; exact h.cells)⟩
theorem one_bv (xs : List UInt8) : ∀ v ∈ xs.map bv, v.oneCell' = true := by
  intro v hv
  obtain ⟨x, _, rfl⟩ := List.mem_map.1 hv
  rfl
theorem app_run {P : Program} {w : World} {T E : TypeId} {sz by' : Nat} [hT : SlT P T E sz by'] {B : Nat} {a : Option Addr} {ad : Addr} {k c m c2 : Nat} {xs news : List Value} (ty : TypeId) (hsz : 0 < sz)
    (hown : Own w B E sz a k c xs) (hsrc : Cells w ad news) (hm : news.length = m * sz) (h1 : ∀ v ∈ news, v.oneCell' = true)
    (hby : (k + m) * by' ≤ 140737488355328) (hle : k + m ≤ maxLen) (hB : B ≤ w.heap.size) :
    ∃ a' c' w', (Builtin.append_ #[T, T] ty #[.slice a k c, .slice (some ad) m c2]).run P w = .ok (.slice a' (k + m) c') w' ∧ Own w' B E sz a' (k + m) c' (xs ++ news) ∧
      Ext (fun i => a.map (·.block) = some i) w w' ∧ ∀ ad', a' = some ad' → a.map (·.block) = some ad'.block ∨ w.heap.size ≤ ad'.block := by
  obtain ⟨i, z, i1, i2, i3, i4, i5⟩ := hT.info
  have shape : ∀ {v' : Value} {w' : World} {B' : Nat}, w'.ownsRow B' E sz v' (k + m) (xs ++ news) → ∃ a' c', v' = .slice a' (k + m) c' := by
    intro v' w' B' r2
    rcases r2.2 with ⟨h, h0⟩ | ⟨g, cap, cur, h, _⟩
    · rw [h0]; exact ⟨none, 0, h⟩
    · exact ⟨_, _, h⟩
  rcases hown.open with ⟨rfl, rfl, rfl, rfl⟩ | ⟨g, rest, rfl, hb, hg, h2, h3, h4⟩
  · obtain ⟨v', w', r1, r2, r3, r4⟩ := run_append_own (P := P) w w.heap.size T ty E i z sz by' hT.und i1 i2 i3 i4 i5 hsz (.slice none 0 0) 0 [] (Own.nil w w.heap.size E sz) ad m c2 news hm hsrc h1 hle hby (Nat.le_refl _)
    obtain ⟨a', c', rfl⟩ := shape r2
    refine ⟨a', c', w', r1, Own.mono r2 hB, (Ext.of_grown r3).mono (fun i _ h => by simp [Value.ownBlock] at h), fun ad' e => .inr ?_⟩
    subst e
    exact (Own.ge r2).1
  · by_cases hroom : k + m ≤ c
    · obtain ⟨w', r1, r2, r3⟩ := run_append_fits (P := P) w B T ty E i sz hT.und i1 i3 g k c xs hown ad m c2 news hm hsrc h1 hroom
      exact ⟨_, _, w', r1, r2, (Ext.of_grown r3).mono (fun i _ h => by simpa using h), fun ad' e => .inl (by cases e; rfl)⟩
    · have hge : k + m ≤ grownCap w (k + m) c E := grownCap_ge w (k + m) c E
      have hcm : grownCap w (k + m) c E ≤ maxLen := grownCap_le_maxLen w (k + m) c E hle
      have hr := run_append_grow (P := P) w T ty E i z hT.und i1 i2 ⟨g, 0, none⟩ k c xs (by rw [i3]; exact hown.len) hown.cells ad m c2 news (by rw [i3]; exact hm) hsrc (by omega) (by simp only [maxLen] at hle; omega)
        (by rw [i4]; exact growslice_fits (by omega) hby)
      refine ⟨_, _, _, hr, ?_, (Ext.drew w).trans (Ext.alloc _ _), fun ad' e => .inr (by cases e; exact Nat.le_refl _)⟩
      refine Own.mk (rest := (Builtin.zeroCells z.cells (grownCap w (k + m) c E - (k + m))).toList) hB ?_ (by simp [hown.len, hm, Nat.add_mul]) hge hcm ?_
      · have := heap_alloc_new w.drew (.cells (xs.toArray ++ news.toArray ++ Builtin.zeroCells z.cells (grownCap w (k + m) c E - (k + m))) E)
        refine this.trans ?_
        simp
      · simp only [List.length_append, Array.length_toList, size_zeroCells, i5, hown.len, hm, ← Nat.add_mul]
        congr 1
        omega
/-- append(s, x...). -/
theorem l_app {d : Nat} {T E : TypeId} {sz by' : Nat} [hT : SlT P T E sz by'] {s x : Operand} {B : Nat} {a a2 : Option Addr} {k c m c2 : Nat} {xs news : List Value} (hsz : 0 < sz) (hb : (M.any || !b) = true) (hg : gOk ops l g = true) (hd : Nat.blt d n = true)
    (hs : ev l s = some (.slice a k c)) (hx : ev l x = some (.slice a2 m c2)) (hown : Own w B E sz a k c xs) (hsrc : Src w a2 news) (hnil : a2 = none → c2 = 0) (hm : news.length = m * sz) (h1 : ∀ v ∈ news, v.oneCell' = true)
    (hby : (k + m) * by' ≤ 140737488355328) (hle : k + m ≤ maxLen) (hB : B ≤ w.heap.size)
    (h : ∀ a' c' w', Own w' B E sz a' (k + m) c' (xs ++ news) → Ext (fun i => a.map (·.block) = some i) w w' → (∀ ad', a' = some ad' → a.map (·.block) = some ad'.block ∨ w.heap.size ≤ ad'.block) →
      M.chk w' ∧ LJ M P n ds ops Q rest ((d, .slice a' (k + m) c') :: l) w') :
    LJ M P n ds ops Q (.one b ⟨some d, .call { callee := .builtin .append, args := #[s, x], argTypes := #[T, T] }, ty, pos, af, g⟩ rest) l w := by
  obtain ⟨i, z, i1, i2, i3, i4, i5⟩ := hT.info
  cases a2 with
  | none =>
    have hnews := hsrc.1 rfl
    subst hnews
    have hm0 : m = 0 := by
      simp only [List.length_nil] at hm
      rcases Nat.eq_zero_or_pos m with h | h
      · exact h
      · have := Nat.mul_pos h hsz; omega
    have hc0 := hnil rfl
    subst hm0
    subst hc0
    have hr := run_append_owned_none (P := P) w B T ty E i sz hT.und i1 (.slice a k c) k xs hown
    obtain ⟨h5, h6⟩ := h a c w (by simpa using hown) (Ext.refl w) (fun ad e => .inl (by rw [e]; rfl))
    refine l_e hb hg hd (fun ρ hρ => ?_) h5 h6
    simp [execOp, resolve, invoke, builtin, hρ _ _ hs, hρ _ _ hx, hr]
  | some ad =>
    obtain ⟨a', c', w', r1, r2, r3, r4⟩ := app_run (P := P) (T := T) (c2 := c2) ty hsz hown (hsrc.2 ad rfl) hm h1 hby hle hB
    obtain ⟨h5, h6⟩ := h a' c' w' r2 r3 r4
    refine l_e hb hg hd (fun ρ hρ => ?_) h5 h6
    simp [execOp, resolve, invoke, builtin, hρ _ _ hs, hρ _ _ hx, r1]
end
end Go.Sx
