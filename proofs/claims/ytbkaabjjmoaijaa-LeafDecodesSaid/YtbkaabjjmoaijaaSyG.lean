/- The second layer, part seven: append from within a list of one's own; families of lists. -/
import Derived.Test.YtbkaabjjmoaijaaSyF
namespace Go.Sx
open Go
section
variable {α : Type}
/-- ys laid over xs from p on. -/
def putL (xs : List α) (p : Nat) (ys : List α) : List α := xs.take p ++ ys ++ xs.drop (p + ys.length)
theorem putL_len {xs ys : List α} {p : Nat} (hp : p ≤ xs.length) : (putL xs p ys).length = max xs.length (p + ys.length) := by
  simp only [putL, List.length_append, List.length_take, List.length_drop]; omega
theorem putL_mem {xs ys : List α} {p : Nat} {x : α} (h : x ∈ putL xs p ys) : x ∈ xs ∨ x ∈ ys := by
  simp only [putL, List.mem_append] at h
  rcases h with (h | h) | h
  · exact .inl (List.mem_of_mem_take h)
  · exact .inr h
  · exact .inl (List.mem_of_mem_drop h)
variable [Cel α]
theorem flat_app (xs ys : List α) : flat (xs ++ ys) = flat xs ++ flat ys := by simp [flat]
theorem flat_take (xs : List α) (k : Nat) : flat (xs.take k) = (flat xs).take (k * Cel.sz α) := by
  by_cases h : k ≤ xs.length
  · have e := flat_app (xs.take k) (xs.drop k)
    rw [List.take_append_drop] at e
    have hl : (flat (xs.take k)).length = k * Cel.sz α := by rw [flat_length, List.length_take, Nat.min_eq_left h]
    rw [e, ← hl, List.take_left]
  · rw [List.take_of_length_le (by omega), List.take_of_length_le]
    rw [flat_length]
    exact Nat.mul_le_mul_right _ (by omega)
theorem flat_drop (xs : List α) (k : Nat) : flat (xs.drop k) = (flat xs).drop (k * Cel.sz α) := by
  have e := flat_app (xs.take k) (xs.drop k)
  rw [List.take_append_drop, flat_take] at e
  have e2 := List.take_append_drop (k * Cel.sz α) (flat xs)
  exact List.append_cancel_left (e.symm.trans e2.symm)
end
theorem app_room {P : Program} {w : World} {T E : TypeId} {sz by' : Nat} [hT : SlT P T E sz by'] {g c p m c2 : Nat} {ad : Addr} {cur news : List Value} (ty : TypeId) (hg : HB w g E cur) (hsrc : Cells w ad news)
    (hm : news.length = m * sz) (h1 : ∀ v ∈ news, v.oneCell' = true) (hroom : p + m ≤ c) (hfit : p * sz + news.length ≤ cur.length) :
    ∃ w', (Builtin.append_ #[T, T] ty #[.slice (some ⟨g, 0, none⟩) p c, .slice (some ad) m c2]).run P w = .ok (.slice (some ⟨g, 0, none⟩) (p + m) c) w' ∧ HB w' g E (cur.take (p * sz) ++ news ++ cur.drop (p * sz + news.length)) ∧ Ext (fun i => i = g) w w' := by
  obtain ⟨i, z, i1, i2, i3, i4, i5⟩ := hT.info
  have hr := run_append_room (P := P) w T ty E i hT.und i1 g p c cur.toArray hg ad m c2 news (by rw [i3]; exact hm) hsrc h1 hroom (by rw [i3]; simpa using hfit)
  rw [i3] at hr
  exact ⟨_, hr, setRow_heap w g _ _ E (0, 0) hg, ⟨rfl, rfl, rfl, by simp [World.setRow], fun k _ hn => setRow_other w g k _ hn⟩⟩
theorem app_grow {P : Program} {w : World} {T E : TypeId} {sz by' : Nat} [hT : SlT P T E sz by'] {B : Nat} {a : Option Addr} {ad : Addr} {k p c m c2 : Nat} {xs news : List Value} (ty : TypeId) (hsz : 0 < sz)
    (hown : Own w B E sz a k c xs) (hp : p ≤ k) (hsrc : Cells w ad news) (hm : news.length = m * sz) (h1 : ∀ v ∈ news, v.oneCell' = true)
    (hby : (p + m) * by' ≤ 140737488355328) (hle : p + m ≤ maxLen) (hc : c < p + m) :
    ∃ a' c' w', (Builtin.append_ #[T, T] ty #[.slice a p c, .slice (some ad) m c2]).run P w = .ok (.slice a' (p + m) c') w' ∧ Own w' w.heap.size E sz a' (p + m) c' (xs.take (p * sz) ++ news) ∧ Ex w w' := by
  obtain ⟨i, z, i1, i2, i3, i4, i5⟩ := hT.info
  have shape : ∀ {v' : Value} {w' : World} {ys : List Value}, w'.ownsRow w.heap.size E sz v' (p + m) ys → ∃ a' c', v' = .slice a' (p + m) c' := by
    intro v' w' ys r2
    rcases r2.2 with ⟨h, h0⟩ | ⟨g, cap, cur, h, _⟩
    · rw [h0]; exact ⟨none, 0, h⟩
    · exact ⟨_, _, h⟩
  rcases hown.open with ⟨rfl, rfl, rfl, rfl⟩ | ⟨g, rest, rfl, hb, hg, h2, h3, h4⟩
  · obtain rfl : p = 0 := by omega
    obtain ⟨v', w', r1, r2, r3, r4⟩ := run_append_own (P := P) w w.heap.size T ty E i z sz by' hT.und i1 i2 i3 i4 i5 hsz (.slice none 0 0) 0 [] (Own.nil w w.heap.size E sz) ad m c2 news hm hsrc h1 hle hby (Nat.le_refl _)
    obtain ⟨a', c', rfl⟩ := shape r2
    have e : ([] : List Value).take (0 * sz) ++ news = [] ++ news := by simp
    exact ⟨a', c', w', r1, by rw [e]; exact r2, (Ext.of_grown r3).mono (fun i _ h => by simp [Value.ownBlock] at h)⟩
  · have hl := hown.len
    have hlt : (xs.take (p * sz)).length = p * sz := by
      rw [List.length_take, hl]
      exact Nat.min_eq_left (Nat.mul_le_mul_right _ hp)
    obtain ⟨v', w', r1, r2, r3⟩ := run_append_arg_grows (P := P) w T ty E i z sz by' hT.und i1 i2 i3 i4 i5 hsz ⟨g, 0, none⟩ p c (xs.take (p * sz)) hlt (fun j u hj => hown.cells j u (by
      rw [List.getElem?_take] at hj
      split at hj
      · exact hj
      · cases hj)) ad m c2 news hm hsrc hc hle hby
    obtain ⟨a', c', rfl⟩ := shape r2
    exact ⟨a', c', w', r1, r2, (Ext.of_grown r3).mono (fun i _ h => by cases h)⟩
section
variable {M : Md} {P : Program} {n : Nat} {ds : List Deferred} {ops : Array Oper} {Q : Exit → Act → World → Prop} {rest : Tr} {l : List (Nat × Value)} {w0 : World} {H : List Ck} {b : Bool} {ty : TypeId} {pos : String} {af : Array Edge} {g : Option (Nat × Bool)}
variable {α : Type} [Cel α]
/-- append(s, x...), s the first p of a list of one's own: in its place, or elsewhere. -/
theorem s_appP {d : Nat} {T E : TypeId} {sz by' : Nat} [hT : SlT P T E sz by'] {s x : Operand} {a a2 : Option Addr} {c c2 p m : Nat} {xs ys : List α} {H' : List Ck}
    (hin : p + ys.length ≤ c → SL M P n ds ops Q rest ((d, .slice a (p + ys.length) c) :: l) w0 H') (hout : ∀ a' c', SL M P n ds ops Q rest ((d, .slice a' (p + ys.length) c') :: l) w0 (ol E a' c' (xs.take p ++ ys) :: H))
    (hs : ev l s = some (.slice a p c) := by exact rfl) (hx : ev l x = some (.slice a2 m c2) := by exact rfl) (hsrc : RSl w0 H a2 c2 ys := by exact rsl) (hm : m = ys.length := by first | exact rfl | omega | simp) (hne : 0 < ys.length := by first | exact Nat.one_pos | omega | simp)
    (hA : At (ol E a c xs) (ol E a c (putL xs p ys)) H H' := by exact at_) (hp : p ≤ xs.length := by omega) (hby : (p + ys.length) * by' ≤ 140737488355328 := by first | omega | (simp only [List.length_append, List.length_cons, List.length_nil, List.length_map, List.length_take, List.length_drop, List.length_replicate]; omega))
    (hb : M.act b = true := by exact rfl) (hg : gOk ops l g = true := by exact rfl) (hd : Nat.blt d n = true := by exact rfl) (hz : sz = Cel.sz α := by exact rfl) (hy1 : Nat.ble 1 by' = true := by exact rfl) (hk : Chk M H' := by intros; first | exact chk_seq | exact chk_held (by exact ent)) (hk' : ∀ a' c', Chk M (ol E a' c' (xs.take p ++ ys) :: H) := by intros; first | exact chk_seq | exact chk_held (by exact ent)) :
    SL M P n ds ops Q (.one b ⟨some d, .call { callee := .builtin .append, args := #[s, x], argTypes := #[T, T] }, ty, pos, af, g⟩ rest) l w0 H := .mk fun w hw => by
  subst hz
  subst hm
  have h1 := Nat.le_of_ble_eq_true hy1
  have h2 := Nat.le_mul_of_pos_right (p + ys.length) h1
  have hS := (hsrc w hw).src
  cases a2 with
  | none =>
    have := hS.1 rfl
    have hl := congrArg List.length this
    rw [flat_length] at hl
    rcases Nat.mul_eq_zero.1 hl with h | h
    · omega
    · have := Cel.pos (α := α); omega
  | some ad =>
    have ho := Sat.ownOf hA hw
    have hpz : p * Cel.sz α ≤ xs.length * Cel.sz α := Nat.mul_le_mul_right _ hp
    by_cases hc : p + ys.length ≤ c
    · rcases ho.open with ⟨h0, _, h0', _⟩ | ⟨k, re, e1, e2, e3, e4, e5, e6⟩
      · omega
      · subst e1
        have hle : (p + ys.length) * Cel.sz α ≤ c * Cel.sz α := Nat.mul_le_mul_right _ hc
        rw [Nat.add_mul] at hle
        have hfl := flat_length xs
        have hyl := flat_length ys
        obtain ⟨w', r1, r2, r3⟩ := app_room (P := P) (T := T) (c2 := c2) (p := p) (c := c) ty e3 (hS.2 ad rfl) (flat_length ys) (flat_oneC ys) hc (by rw [List.length_append]; omega)
        have hpl := putL_len (ys := ys) hp
        have hB : HB w' k E (flat (putL xs p ys) ++ re.drop (p * Cel.sz α + (flat ys).length - (flat xs).length)) := by
          have e : (flat xs ++ re).take (p * Cel.sz α) ++ flat ys ++ (flat xs ++ re).drop (p * Cel.sz α + (flat ys).length) = flat (putL xs p ys) ++ re.drop (p * Cel.sz α + (flat ys).length - (flat xs).length) := by
            rw [putL, flat_app, flat_app, flat_take, flat_drop, List.take_append_of_le_length (by omega), List.drop_append, Nat.add_mul, ← hyl, List.append_assoc, List.append_assoc, List.append_assoc]
          rw [← e]
          exact r2
        have hO : Own w' w0.heap.size E (Cel.sz α) (some ⟨k, 0, none⟩) (putL xs p ys).length c (flat (putL xs p ys)) := by
          refine Own.mk e2 hB (flat_length _) (by rw [hpl]; omega) e5 ?_
          rw [flat_length, hpl, List.length_drop]
          rw [hfl, hyl]
          rw [hfl] at e6
          rcases Nat.le_total xs.length (p + ys.length) with h | h
          · rw [Nat.max_eq_right h, Nat.add_mul]
            have := Nat.mul_le_mul_right (Cel.sz α) h
            rw [Nat.add_mul] at this
            omega
          · rw [Nat.max_eq_left h]
            have := Nat.mul_le_mul_right (Cel.sz α) h
            rw [Nat.add_mul] at this
            omega
        have hw' := hw.own hA hO (r3.mono fun i _ e => by rw [e]; rfl) (fun ad' e => by cases e; exact .inl rfl)
        exact l_e (Md.any hb) hg hd (fun ρ hρ => by simp [execOp, resolve, invoke, builtin, hρ _ _ hs, hρ _ _ hx, r1]) (hk.out hw') ((hin hc).out w' hw')
    · obtain ⟨a', c', w', r1, r2, r3⟩ := app_grow (P := P) (T := T) (c2 := c2) (p := p) ty (Cel.pos (α := α)) ho hp (hS.2 ad rfl) (flat_length ys) (flat_oneC ys) hby (by simp only [maxLen]; omega) (by omega)
      have e : (flat xs).take (p * Cel.sz α) ++ flat ys = flat (xs.take p ++ ys) := by rw [flat_app, flat_take]
      rw [e] at r2
      have hl : (xs.take p ++ ys).length = p + ys.length := by rw [List.length_append, List.length_take, Nat.min_eq_left hp]
      have hw' : Sat w0 (ol E a' c' (xs.take p ++ ys) :: H) w' := Own.sat (by rw [hl]; exact r2) hw r3
      exact l_e (Md.any hb) hg hd (fun ρ hρ => by simp [execOp, resolve, invoke, builtin, hρ _ _ hs, hρ _ _ hx, r1]) ((hk' a' c').out hw') ((hout a' c').out w' hw')
end

/-! ### Families -/
/-- A thing that is a list of one's own. -/
class Row (β : Type) (α : outParam Type) where
  a : β → Option Addr
  c : β → Nat
  xs : β → List α
instance : Row SB UInt8 := ⟨SB.a, SB.c, SB.xs⟩
/-- A slice of entries. -/
structure SE where
  a : Option Addr
  c : Nat
  xs : List KV
@[reducible] def SE.val (s : SE) : Value := .slice s.a s.xs.length s.c
instance : Cel SE := ⟨1, fun x => [x.val], fun _ => rfl, fun _ => rfl, Nat.one_pos⟩
instance : Row SE KV := ⟨SE.a, SE.c, SE.xs⟩
section
variable {α β : Type} [Cel α] [Row β α] {E : TypeId}
@[reducible] def Row.ck (E : TypeId) (s : β) : Ck := ol E (Row.a s) (Row.c s) (Row.xs s)
/-- Lists of one's own, side by side. -/
def fam (E : TypeId) (L : List β) : Ck := .star (L.map (Row.ck E))
variable {L K H : List Ck} {F G : List β} {s : β}
theorem Ent.both {A B : List Ck} (h : A.Perm B) : Ent (.star A :: H) (.star B :: H) := Ent.open (Ent.star (Ent.perm (h.append_right H)))
theorem fam_perm (h : F.Perm G) : Ent (fam E F :: H) (fam E G :: H) := Ent.both (h.map _)
theorem fam_cons : Ent (fam E (s :: F) :: H) (Row.ck E s :: fam E F :: H) := Ent.open (Ent.head (Ent.star Ent.refl))
theorem fam_cons' : Ent (Row.ck E s :: fam E F :: H) (fam E (s :: F) :: H) := Ent.star (Ent.head (Ent.open Ent.refl))
theorem fam_nil : Ent H (fam E ([] : List β) :: H) := Ent.star0
theorem fam_app : Ent (fam E F :: fam E G :: H) (fam E (F ++ G) :: H) := Ent.open (Ent.star (by
  rw [List.map_append, List.append_assoc]
  exact (Ent.perm (List.perm_append_comm (l₁ := F.map (Row.ck E)) (l₂ := fam E G :: H))).trans (((Ent.open Ent.refl : Ent (fam E G :: (H ++ F.map (Row.ck E))) _)).trans (Ent.perm (by
    rw [← List.append_assoc]
    exact List.perm_append_comm))) |>.trans (Ent.perm (List.Perm.refl _))))
/-- The first of a family, by itself. -/
theorem Ent.famC {R : List Ck} (h : Rm (fam E (s :: F)) H R) : Ent H (Row.ck E s :: fam E F :: R) := (Ent.perm h.out).trans fam_cons
/-- A family takes one more in. -/
theorem Ent.famS {R1 R2 H' : List Ck} (h1 : Rm (fam E F) H R1) (h2 : Rm (Row.ck E s) R1 R2) (h : Ent R2 H') : Ent H (fam E (F ++ [s]) :: H') := by
  have := Ent.snoc1 (L := F.map (Row.ck E)) h1 h2 h
  rw [fam, List.map_append]
  exact this
theorem perm_erase {β : Type} : ∀ {F : List β} {i : Nat} {s : β}, F[i]? = some s → F.Perm (s :: F.eraseIdx i)
  | [], i, s, h => by simp at h
  | x :: r, 0, s, h => by simp only [List.getElem?_cons_zero, Option.some.injEq] at h; subst h; exact List.Perm.refl _
  | x :: r, i + 1, s, h => ((perm_erase (F := r) (by simpa using h)).cons x).trans (List.Perm.swap _ _ _)
theorem fam_get {i : Nat} (h : F[i]? = some s) : Ent (fam E F :: H) (Row.ck E s :: fam E (F.eraseIdx i) :: H) := by
  exact (fam_perm (perm_erase h)).trans fam_cons
theorem fam_mem (h : s ∈ F) : Ent (fam E F :: H) [Row.ck E s] := Ent.mem' (List.mem_map.2 ⟨s, h, rfl⟩)
theorem fam_sl {w0 : World} (h : s ∈ F) : RSl w0 (fam E F :: H) (Row.a s) (Row.c s) (Row.xs s) := RSl.ent RSl.hd (fam_mem h)
theorem fam_by {w0 : World} {F : List SB} {s : SB} (h : s ∈ F) : RBy w0 (fam E F :: H) s.a s.c s.xs := RBy.ent RBy.hd (fam_mem h)
/-- A part of one of a family's lists, all of whose things are good. -/
def Vw (G : α → Prop) (D : List β) (a : Option Addr) (c n : Nat) : Prop := ∃ s, s ∈ D ∧ Row.a s = a ∧ Row.c s = c ∧ n ≤ (Row.xs s).length ∧ ∀ x ∈ Row.xs s, G x
variable {p q : α → Prop} {D D' : List β} {a : Option Addr} {c n : Nat}
omit [Cel α] in
theorem Vw.mono (h : Vw p D a c n) (hD : ∀ s, s ∈ D → s ∈ D') (hG : ∀ x, p x → q x) : Vw q D' a c n :=
  h.imp fun _ ⟨h1, h2, h3, h4, h5⟩ => ⟨hD _ h1, h2, h3, h4, fun x hx => hG x (h5 x hx)⟩
omit [Cel α] in
theorem Vw.put {x y : β} (h : Vw p (x :: D) a c n) (ha : Row.a y = Row.a x) (hc : Row.c y = Row.c x) (hl : (Row.xs x).length ≤ (Row.xs y).length) (hg : ∀ z ∈ Row.xs y, p z) : Vw p (y :: D) a c n := by
  obtain ⟨s, h1, h2, h3, h4, h5⟩ := h
  rcases List.mem_cons.1 h1 with rfl | h1
  · exact ⟨y, List.mem_cons_self .., ha.trans h2, hc.trans h3, Nat.le_trans h4 hl, hg⟩
  · exact ⟨s, List.mem_cons_of_mem _ h1, h2, h3, h4, h5⟩
theorem Vw.sl (h : Vw p D a c n) : ∃ ys : List α, ys.length = n ∧ (∀ y ∈ ys, p y) ∧ ∀ (w0 : World) (H : List Ck), RSl w0 (fam E D :: H) a c ys := by
  obtain ⟨s, h1, rfl, rfl, h4, h5⟩ := h
  exact ⟨(Row.xs s).take n, by rw [List.length_take]; omega, fun y hy => h5 y (List.mem_of_mem_take hy), fun w0 H => (fam_sl h1).take h4⟩
theorem Vw.by {p : UInt8 → Prop} {D : List SB} (h : Vw p D a c n) : ∃ ys : List UInt8, ys.length = n ∧ (∀ y ∈ ys, p y) ∧ ∀ (w0 : World) (H : List Ck), RBy w0 (fam E D :: H) a c ys := by
  obtain ⟨s, h1, rfl, rfl, h4, h5⟩ := h
  exact ⟨s.xs.take n, by rw [List.length_take]; exact Nat.min_eq_left h4, fun y hy => h5 y (List.mem_of_mem_take hy), fun w0 H => (fam_by h1).take h4⟩
end
end Go.Sx
