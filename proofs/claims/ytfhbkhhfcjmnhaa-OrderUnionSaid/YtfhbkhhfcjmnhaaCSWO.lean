/- Part of a proof: append, where the whole may be longer than 2^47 bytes. -/
import Derived.Test.YtfhbkhhfcjmnhaaCKB
import Derived.Deep.DeepAppendWide
namespace Go.Sx
open Go
theorem app_runW {P : Program} {w : World} {T E : TypeId} {sz by' : Nat} [hT : SlT P T E sz by'] {B : Nat} {a : Option Addr} {ad : Addr} {k c m c2 : Nat} {xs news : List Value} (ty : TypeId) (hsz : 0 < sz)
    (hown : Own w B E sz a k c xs) (hsrc : Cells w ad news) (hm : news.length = m * sz) (h1 : ∀ v ∈ news, v.oneCell' = true)
    (hby : ((k + m) + (k + m) / 4 + 192) * by' ≤ 281474976710656) (hle : k + m ≤ maxLen) (hB : B ≤ w.heap.size) :
    ∃ a' c' w', (Builtin.append_ #[T, T] ty #[.slice a k c, .slice (some ad) m c2]).run P w = .ok (.slice a' (k + m) c') w' ∧ Own w' B E sz a' (k + m) c' (xs ++ news) ∧
      Ext (fun i => a.map (·.block) = some i) w w' ∧ ∀ ad', a' = some ad' → a.map (·.block) = some ad'.block ∨ w.heap.size ≤ ad'.block := by
  obtain ⟨i, z, i1, i2, i3, i4, i5⟩ := hT.info
  have shape : ∀ {v' : Value} {w' : World} {B' : Nat}, w'.ownsRow B' E sz v' (k + m) (xs ++ news) → ∃ a' c', v' = .slice a' (k + m) c' := by
    intro v' w' B' r2
    rcases r2.2 with ⟨h, h0⟩ | ⟨g, cap, cur, h, _⟩
    · rw [h0]; exact ⟨none, 0, h⟩
    · exact ⟨_, _, h⟩
  rcases hown.open with ⟨rfl, rfl, rfl, rfl⟩ | ⟨g, rest, rfl, hb, hg, h2, h3, h4⟩
  · obtain ⟨v', w', r1, r2, r3, r4⟩ := run_append_own_wide (P := P) w w.heap.size T ty E i z sz by' hT.und i1 i2 i3 i4 i5 hsz (.slice none 0 0) 0 [] (World.ownsRow_nil w w.heap.size E sz) ad m c2 news hm hsrc h1 hle hby (Nat.le_refl _)
    obtain ⟨a', c', rfl⟩ := shape r2
    have r2 := Own.of_row r2
    refine ⟨a', c', w', r1, Own.mono r2 hB, (Ext.of_grown r3).mono (fun i _ h => by simp [Value.ownBlock] at h), fun ad' e => .inr ?_⟩
    subst e
    exact (Own.ge r2).1
  · by_cases hroom : k + m ≤ c
    · have hkl := hown.len
      have hle2 : (k + m) * sz ≤ c * sz := Nat.mul_le_mul_right _ hroom
      rw [Nat.add_mul] at hle2
      have hr := run_append_room (P := P) w T ty E i hT.und i1 g k c (xs ++ rest).toArray hg ad m c2 news (by rw [i3]; exact hm) hsrc h1 hroom (by rw [i3, List.size_toArray, List.length_append]; omega)
      rw [i3] at hr
      have e1 : (xs ++ rest).toArray.toList.take (k * sz) ++ news ++ (xs ++ rest).toArray.toList.drop (k * sz + news.length) = (xs ++ news) ++ rest.drop news.length := by
        have q1 : (xs ++ rest).take (k * sz) = xs := by rw [← hkl]; exact List.take_left
        have q2 : (xs ++ rest).drop (k * sz + news.length) = rest.drop news.length := by rw [← hkl, ← List.drop_drop, List.drop_left]
        show (xs ++ rest).take (k * sz) ++ news ++ (xs ++ rest).drop (k * sz + news.length) = _
        rw [q1, q2]
      rw [e1] at hr
      have hB' : HB (w.setRow g ((xs ++ news) ++ rest.drop news.length).toArray) g E ((xs ++ news) ++ rest.drop news.length) := setRow_heap w g _ _ E (0, 0) hg
      refine ⟨_, _, _, hr, Own.mk' hb hB' (by rw [List.length_append, hkl, hm, Nat.add_mul]) hroom h3 (by rw [List.length_append, List.length_drop]; omega), ⟨rfl, rfl, rfl, by simp [World.setRow], fun i _ hn => setRow_other w g i _ (fun e => hn (by rw [e]; rfl))⟩, fun ad' e => .inl (by cases e; rfl)⟩
    · have hge : k + m ≤ grownCap w (k + m) c E := grownCap_ge w (k + m) c E
      have hcm : grownCap w (k + m) c E ≤ maxLen := grownCap_le_maxLen w (k + m) c E hle
      have hr := run_append_grow (P := P) w T ty E i z hT.und i1 i2 ⟨g, 0, none⟩ k c xs (by rw [i3]; exact hown.len) hown.cells ad m c2 news (by rw [i3]; exact hm) hsrc (by omega) (by simp only [maxLen] at hle; omega)
        (by rw [i4]; exact growslice_fits_wide (by omega) hby)
      refine ⟨_, _, _, hr, ?_, (Ext.drew w).trans (Ext.alloc _ _), fun ad' e => .inr (by cases e; exact Nat.le_refl _)⟩
      refine Own.mk (rest := (Builtin.zeroCells z.cells (grownCap w (k + m) c E - (k + m))).toList) hB ?_ (by simp [hown.len, hm, Nat.add_mul]) hge hcm ?_
      · have := heap_alloc_new w.drew (.cells (xs.toArray ++ news.toArray ++ Builtin.zeroCells z.cells (grownCap w (k + m) c E - (k + m))) E)
        refine this.trans ?_
        simp
      · simp only [List.length_append, Array.length_toList, size_zeroCells, i5, hown.len, hm, ← Nat.add_mul]
        congr 1
        omega
section
variable {M : Mode} {P : Program} {n : Nat} {ds : List Deferred} {ops : Array Oper} {Q : Exit → Act → World → Prop} {b : Bool} {rest : Tr} {l : List (Nat × Value)} {w : World}
variable {ty : TypeId} {pos : String} {af : Array Edge} {g : Option (Nat × Bool)}
theorem l_appW {d : Nat} {T E : TypeId} {sz by' : Nat} [hT : SlT P T E sz by'] {s x : Operand} {B : Nat} {a a2 : Option Addr} {k c m c2 : Nat} {xs news : List Value} (hsz : 0 < sz) (hb : (M.any || !b) = true) (hg : gOk ops l g = true) (hd : Nat.blt d n = true)
    (hs : ev l s = some (.slice a k c)) (hx : ev l x = some (.slice a2 m c2)) (hown : Own w B E sz a k c xs) (hsrc : Src w a2 news) (hnil : a2 = none → c2 = 0) (hm : news.length = m * sz) (h1 : ∀ v ∈ news, v.oneCell' = true)
    (hby : ((k + m) + (k + m) / 4 + 192) * by' ≤ 281474976710656) (hle : k + m ≤ maxLen) (hB : B ≤ w.heap.size)
    (h : ∀ a' c' w', Own w' B E sz a' (k + m) c' (xs ++ news) → Ext (fun i => a.map (·.block) = some i) w w' → (∀ ad', a' = some ad' → a.map (·.block) = some ad'.block ∨ w.heap.size ≤ ad'.block) →
      M.chk w' ∧ LJ M P n ds ops Q rest ((d, .slice a' (k + m) c') :: l) w') :
    LJ M P n ds ops Q (.one b ⟨some d, .call { callee := .builtin .append, args := #[s, x], argTypes := #[T, T] }, ty, pos, af, g⟩ rest) l w := by
  obtain ⟨i, z, i1, i2, i3, i4, i5⟩ := hT.info
  cases a2 with
  | none =>
    have hnews := hsrc.1 rfl
    subst hnews
    have hm0 : m = 0 := by
      simp only [List.length_nil] at hm
      rcases Nat.eq_zero_or_pos m with h | h
      · exact h
      · have := Nat.mul_pos h hsz; omega
    have hc0 := hnil rfl
    subst hm0
    subst hc0
    have hr : (Builtin.append_ #[T, T] ty #[.slice a k c, .slice none 0 0]).run P w = .ok (.slice a k c) w := by
      have hkc := hown.le.1
      rcases hown.open with ⟨rfl, rfl, rfl, rfl⟩ | ⟨g, rest, rfl, _⟩
      · simp [Builtin.append_, run_underlying hT.und, sizeOf, typeInfo, i1, Builtin.lenOf, Builtin.firstCells]
      · simp [Builtin.append_, run_underlying hT.und, sizeOf, typeInfo, i1, Builtin.lenOf, Builtin.firstCells, hkc, storeCells]
    obtain ⟨h5, h6⟩ := h a c w (by simpa using hown) (Ext.refl w) (fun ad e => .inl (by rw [e]; rfl))
    refine l_e hb hg hd (fun ρ hρ => ?_) h5 h6
    simp [execOp, resolve, invoke, builtin, hρ _ _ hs, hρ _ _ hx, hr]
  | some ad =>
    obtain ⟨a', c', w', r1, r2, r3, r4⟩ := app_runW (P := P) (T := T) (c2 := c2) ty hsz hown (hsrc.2 ad rfl) hm h1 hby hle hB
    obtain ⟨h5, h6⟩ := h a' c' w' r2 r3 r4
    refine l_e hb hg hd (fun ρ hρ => ?_) h5 h6
    simp [execOp, resolve, invoke, builtin, hρ _ _ hs, hρ _ _ hx, r1]
end
section
variable {P : Program} {n : Nat} {ds : List Deferred} {Q : Exit → Act → World → Prop} {l l' : List (Nat × Value)} {w0 : World} {H : List Ck} {M : Md} {ops : Array Oper} {rest : Tr} {b : Bool} {ty : TypeId} {pos : String} {af : Array Edge} {g : Option (Nat × Bool)}
variable {α : Type} [Cel α]
theorem s_appW {d : Nat} {T E : TypeId} {sz by' : Nat} [hT : SlT P T E sz by'] {s x : Operand} {a a2 : Option Addr} {c c2 : Nat} {k m : Nat} {xs ys : List α} {H' : Option Addr → Nat → List Ck} (h : ∀ a' c', SL M P n ds ops Q rest ((d, .slice a' (xs ++ ys).length c') :: l) w0 (H' a' c'))
    (hs : ev l s = some (.slice a k c) := by exact rfl) (hx : ev l x = some (.slice a2 m c2) := by exact rfl)
    (hsrc : RSl w0 H a2 c2 ys := by exact rsl) (hm : m = ys.length := by first | exact rfl | omega | simp) (hA : ∀ a' c', At (ol E a c xs) (ol E a' c' (xs ++ ys)) H (H' a' c') := by intro _ _; exact at_) (hk0 : k = xs.length := by first | exact rfl | omega | simp) (hby : ((xs.length + ys.length) + (xs.length + ys.length) / 4 + 192) * by' ≤ 281474976710656 := by first | omega | (simp only [List.length_append, List.length_cons, List.length_nil, List.length_map, List.length_take, List.length_drop, List.length_replicate]; omega))
    (hb : M.act b = true := by exact rfl) (hg : gOk ops l g = true := by exact rfl) (hd : Nat.blt d n = true := by exact rfl) (hz : sz = Cel.sz α := by exact rfl) (hy1 : Nat.ble 1 by' = true := by exact rfl) (hk : ∀ a' c', Chk M (H' a' c') := by intros; first | exact chk_seq | exact chk_held (by exact ent)) :
    SL M P n ds ops Q (.one b ⟨some d, .call { callee := .builtin .append, args := #[s, x], argTypes := #[T, T] }, ty, pos, af, g⟩ rest) l w0 H := .mk fun w hw => by
  subst hz
  subst hm
  subst hk0
  have h1 := Nat.le_of_ble_eq_true hy1
  have h2 := Nat.le_mul_of_pos_right ((xs.length + ys.length) + (xs.length + ys.length) / 4 + 192) h1
  have hS := hsrc w hw
  refine l_appW (Cel.pos (α := α)) (Md.any hb) hg hd hs hx (Sat.ownOf (hA none 0) hw) hS.src hS.nil (flat_length ys) (flat_oneC ys) hby (by simp only [maxLen]; omega) hw.size fun a' c' w' ho he hf => ?_
  have e : flat xs ++ flat ys = flat (xs ++ ys) := by simp [flat]
  rw [e, ← List.length_append] at ho
  rw [← List.length_append]
  have hw' := hw.own (hA a' c') ho he hf
  exact ⟨(hk a' c').out hw', (h a' c').out w' hw'⟩
end
end Go.Sx
