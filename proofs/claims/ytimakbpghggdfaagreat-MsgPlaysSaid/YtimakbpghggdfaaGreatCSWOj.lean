/- Part of a proof: several parts of a walk, one behind the other. -/
import Derived.Test.YtimakbpghggdfaaGreatCO2j
import Derived.Test.YtimakbpghggdfaaGreatCKB
import Derived.Deep.DeepAppendWide
namespace Go.Sx
open Go Go.Proofs
set_option maxRecDepth 10000
variable {w0 : World} {H : List Ck}
@[reducible] def oKVs (e : KV) : List Ck := [ob e.ka e.kc e.k, ob e.va e.vc e.v]
/-- What is read of an entry. -/
structure REe (w0 : World) (H : List Ck) (e : KV) : Prop where
  k : RBy w0 H e.ka e.kc e.k
  v : RBy w0 H e.va e.vc e.v
theorem REe.tl {e : KV} {d : Ck} (h : REe w0 H e) : REe w0 (d :: H) e := ⟨h.k.tl, h.v.tl⟩
theorem REe.ent {e : KV} {H' : List Ck} (h : REe w0 H' e) (g : Ent H H') : REe w0 H e := ⟨h.k.ent g, h.v.ent g⟩
theorem REe.st {es : List KV} {e : KV} (h : e ∈ es) : REe w0 (stars oKVs es :: H) e := REe.ent (H' := oKVs e) ⟨RBy.hd, RBy.hd.tl⟩ (stars_mem h)
theorem Ent.dropL {H : List Ck} : ∀ (L : List Ck), Ent (L ++ H) H
  | [] => Ent.refl
  | _ :: L => Ent.tl (Ent.dropL L)
theorem stars_sub {f : KV → List Ck} {F G : List KV} (h : G.Sublist F) {H : List Ck} : Ent (stars f F :: H) (stars f G :: H) := by
  obtain ⟨R, hp⟩ := h.exists_perm_append
  refine (stars_perm hp).trans ?_
  refine Ent.open ?_
  rw [List.flatMap_append, List.append_assoc]
  refine Ent.trans (H' := G.flatMap f ++ H) ?_ (Ent.star Ent.refl)
  exact Ent.appL (Ent.dropL _)
theorem ins_stars {e : KV} {out : List KV} {i j : Nat} {H : List Ck} (hij : i ≤ j) : Ent (oKVs e ++ stars oKVs out :: H) (stars oKVs (out.take i ++ e :: out.drop j) :: H) := by
  refine stars_cons'.trans ?_
  refine (stars_sub (G := e :: (out.take i ++ out.drop j)) ?_).trans (stars_perm List.perm_middle.symm)
  refine List.Sublist.cons_cons e ?_
  have : out.drop j = (out.drop i).drop (j - i) := by rw [List.drop_drop, show i + (j - i) = j by omega]
  rw [this]
  conv => rhs; rw [← List.take_append_drop i out]
  exact (List.Sublist.refl _).append (List.drop_sublist _ _)
theorem del_stars {out : List KV} {i j : Nat} {H : List Ck} (hij : i ≤ j) : Ent (stars oKVs out :: H) (stars oKVs (out.take i ++ out.drop j) :: H) := by
  refine stars_sub ?_
  have : out.drop j = (out.drop i).drop (j - i) := by rw [List.drop_drop, show i + (j - i) = j by omega]
  rw [this]
  conv => rhs; rw [← List.take_append_drop i out]
  exact (List.Sublist.refl _).append (List.drop_sublist _ _)
end Go.Sx
namespace Go.Sx
open Go Go.Proofs
set_option maxRecDepth 10000
variable {w0 : World} {H : List Ck}
abbrev fx (x : UInt8) : UInt8 := x ^^^ 1
/-- Bytes with the marks behind them. -/
abbrev lm (xs : Bs) : Bs := xs ++ [251, 252]
def wx (xs : Bs) (i : Nat) : Bs := (xs.take i).map fx ++ (xs.drop i ++ [251, 252])
theorem wx_len (xs : Bs) {i : Nat} (h : i ≤ xs.length) : (wx xs i).length = xs.length + 2 := by
  simp [wx]
  omega
theorem wx_step {xs : Bs} {i : Nat} (h : i < xs.length) : (wx xs i).set i ((wx xs i).getD i 0 ^^^ 1) = wx xs (i + 1) := by
  obtain ⟨x, hx⟩ := get_lt xs i h
  have hl : ((xs.take i).map fx).length = i := by simp; omega
  have hd : xs.drop i = x :: xs.drop (i + 1) := by
    obtain ⟨h1, h2⟩ := List.getElem?_eq_some_iff.1 hx
    rw [List.drop_eq_getElem_cons h1, h2]
  have e : (wx xs i).getD i 0 = x := by
    rw [wx, hd, List.getD_eq_getElem?_getD, List.getElem?_append_right (by omega), hl, Nat.sub_self]
    rfl
  rw [e, wx, wx, hd, List.set_append_right _ _ (by omega), hl, Nat.sub_self, snocT hx, List.map_append, List.append_assoc]
  rfl
theorem lent_s {xs : Bs} {a : Option Addr} {c : Nat} (ha : RBy w0 H a c xs) (h1 : xs.length ≤ 140737488351232) : FnS Tryz.prog w0 H 60 #[.slice a xs.length c] (fun v H' => ∃ a' c', v = .slice a' xs.length c' ∧ H' = ob a' c' (lm xs) :: H) := by
  refine fns_enter Tryz.func60 rfl rfl rfl ?_
  refine s_kn (Kn.by ha) fun l1 => ?_
  simp only [maxLen] at l1
  refine sx ?_
  refine s_rw (t := 6) (v' := .int .i64 ((xs.length + 2 : Nat) : Int)) rfl (ci (by omega)) ?_
  refine s_make0 (α := UInt8) rfl rfl (by omega) fun b => ?_
  refine sx ?_
  refine s_app (ys := xs) ?_
  intro a1 c1
  refine sx ?_
  refine s_bsl ([251, 252] : List UInt8) rfl rfl fun k3 => ?_
  refine sx ?_
  refine s_app (xs := [] ++ xs) (ys := [251, 252]) ?_
  intro a2 c2
  rw [List.nil_append]
  refine s_knL (Kn.by (a := a2) (c := c2) (xs := xs ++ [251, 252]) (by exact rby)) fun l2 => ?_
  simp only [maxLen, List.length_append, List.length_cons, List.length_nil] at l2
  refine sx ?_
  exact s_ret1 rfl rfl ⟨a2, c2, rfl, rfl⟩
theorem kept_s {xs : Bs} {a a' : Option Addr} {c c' : Nat} (ha : RBy w0 H a c xs) : FnS Tryz.prog w0 (ob a' c' (lm xs) :: H) 67 #[.slice a' xs.length c', .slice a xs.length c] (fun v H' => v = .bool true ∧ H' = ob a' c' (lm (xs.map fx)) :: H) := by
  have hx0 : ∀ H0, RBy w0 (ob a' c' (lm xs) :: H0) a' c' xs := fun H0 => by
    have := (RBy.hd (w0 := w0) (E := 5) (a := a') (c := c') (xs := lm xs) (H := H0)).take (k := xs.length) (by simp)
    rwa [lm, List.take_left] at this
  have hll : (lm xs).length = xs.length + 2 := by simp [lm]
  refine fns_enter Tryz.func67 rfl rfl rfl ?_
  refine s_kn (Kn.by (RBy.hd (w0 := w0) (E := 5) (a := a') (c := c') (xs := lm xs) (H := H))) fun l1 => ?_
  simp only [maxLen] at l1
  refine sx ?_
  refine s_rw (t := 13) (v' := .int .i64 (((lm xs).length : Nat) : Int)) rfl (ci (by omega)) ?_
  refine sx ?_
  refine s_yS rfl rfl rfl (y_st (xs := xs) rfl (hx0 H)) ?_
  refine sx ?_
  refine s_gT rfl (by rw [decide_eq_true_eq, lm, List.getD_eq_getElem?_getD, List.getElem?_append_right (Nat.le_refl _), Nat.sub_self]; rfl) ?_
  refine sx ?_
  refine s_rwC (t := 7) (v' := .bool true) rfl (congrArg Value.bool (by rw [decide_eq_true_eq, lm, List.getD_eq_getElem?_getD, List.getElem?_append_right (Nat.le_add_right _ _), Nat.add_sub_cancel_left]; rfl)) ?_
  refine s_rwC (t := 6) (v' := .slice a' (xs.length + 2) c') rfl (by rw [hll]) ?_
  refine s_loop (fun i : Nat => [(5, .int .i64 xs.length), (6, .slice a' (xs.length + 2) c'), (7, .bool true), (8, .int .i64 i)]) (fun i => ob a' c' (wx xs i) :: H) (fun i => i ≤ xs.length) (fun i => xs.length - i) 0 (Nat.zero_le _) ?_
  intro i hi
  refine sx ?_
  refine s_if rfl (fun t1 => ?_) (fun t1 => ?_)
  · have hw := wx_len xs hi
    refine s_rwC (t := 6) (v' := .slice a' (wx xs i).length c') rfl (by rw [hw]) ?_
    clear hx0
    refine sx ?_
    refine s_yS rfl rfl rfl (y_xorb (b := 1) rfl rfl) ?_
    refine sx ?_
    refine s_set1g (i := i) (y := (wx xs i).getD i 0 ^^^ 1) rfl rfl (by exact at_) rfl (by omega) ?_
    rw [wx_step (by omega)]
    refine sx ?_
    refine s_rwQ (t := 6) (v' := .slice a' (xs.length + 2) c') rfl (by rw [hw]) ?_
    exact s_again (i + 1) (by omega) (by omega)
  · obtain rfl : i = xs.length := by omega
    refine sx ?_
    refine s_ret1 rfl rfl ⟨rfl, rfl⟩ ?_
    rw [wx, List.take_length, List.drop_length, List.nil_append]
    exact Ent.refl
theorem turned_s {xs : Bs} {a : Option Addr} {c : Nat} (ha : RBy w0 H a c xs) (h1 : xs.length ≤ 140737488351232) : FnS Tryz.prog w0 H 63 #[.slice a xs.length c] (fun v H' => ∃ a' c', v = .slice a' (xs.map fx).length c' ∧ H' = ob a' c' (lm (xs.map fx)) :: H) := by
  refine fns_enter Tryz.func63 rfl rfl rfl ?_
  refine sx ?_
  refine s_call rfl (lent_s ha h1) ?_
  rintro _ _ ⟨a1, c1, rfl, rfl⟩
  refine ⟨chk_seq, ?_⟩
  refine sx ?_
  refine s_call rfl (kept_s ha) ?_
  rintro _ _ ⟨rfl, rfl⟩
  refine ⟨chk_seq, ?_⟩
  refine sx ?_
  exact s_ret1 rfl rfl ⟨a1, c1, by rw [List.length_map], rfl⟩
end Go.Sx
namespace Go.Sx
open Go Go.Proofs
set_option maxRecDepth 10000
variable {w0 : World} {H : List Ck}
/-- A string. -/
structure St where
  xs : Bs
@[reducible] def St.val (s : St) : Value := str s.xs
instance : Cel St := ⟨1, fun x => [x.val], fun _ => rfl, fun _ => rfl, Nat.one_pos⟩
instance : ElT Tryz.prog 9 St := ⟨trivial⟩
/-- A lot: the book in it; the two lists ahead of it as they may be. -/
structure Ob where
  k : Nat
  sf : List Value
  la : Option Addr
  lc : Nat
  ls : List SB
  wa : Option Addr
  wc : Nat
  ws : List St
def Ob.cells (B : Ob) : List Value := .slice B.la B.ls.length B.lc :: .slice B.wa B.ws.length B.wc :: B.sf
def Ob.pieces (B : Ob) : List Ck := [.hb B.k 69 B.cells, ol 24 B.la B.lc B.ls, ol 9 B.wa B.wc B.ws, fam 5 B.ls]
abbrev Ob.ck (B : Ob) : Ck := .star B.pieces
theorem Ob.open {B : Ob} : Ent (B.ck :: H) (B.pieces ++ H) := Ent.open Ent.refl
theorem Ob.shut {B : Ob} : Ent (B.pieces ++ H) (B.ck :: H) := Ent.star Ent.refl
theorem hold_s {B : Ob} {a a2 : Option Addr} {c c2 : Nat} {xs ys : Bs} (hl : B.ls.length ≤ 3000000000000 ∧ B.ws.length ≤ 3000000000000) (hy : RBy w0 H a2 c2 ys) :
    FnS Tryz.prog w0 (ob a c xs :: B.ck :: H) 93 #[.pointer (some ⟨B.k, 0, none⟩), .slice a xs.length c, .slice a2 ys.length c2]
      (fun _ H' => ∃ la lc wa wc, H' = Ob.ck { B with la := la, lc := lc, ls := B.ls ++ [⟨a, c, xs⟩], wa := wa, wc := wc, ws := B.ws ++ [⟨ys⟩] } :: H) := by
  obtain ⟨K, sf, la, lc, ls, wa, wc, ws⟩ := B
  simp only at hl ⊢
  refine fns_enter Tryz.func93 rfl rfl rfl ?_
  refine s_ent (.hb K 69 (.slice la ls.length lc :: .slice wa ws.length wc :: sf) :: ol 24 la lc ls :: ol 9 wa wc ws :: fam 5 ls :: ob a c xs :: H) ?_ ?_
  · refine (Ent.perm (.swap _ _ _)).trans ?_
    refine Ob.open.trans ?_
    exact ent
  refine sx ?_
  refine s_bsl [(⟨a, c, xs⟩ : SB)] rfl rfl fun b9 => ?_
  refine s_app ?_
  intro la' lc'
  refine sx ?_
  refine sx ?_; refine s_drH (H) (.one true 0 (.one true 1 (.one true 2 (.one true 3 (.one true 5 (.one true 6 (.alt (.one false 4 (.one false 7 (.one false 8 (.one true 9 (.one true 10 (.one false 11 .nil)))))) (.one false 7 (.one false 4 (.one false 8 (.one true 9 (.one true 10 (.one false 11 .nil))))))))))))) mixed (by kernel_rfl) ?_; refine sx ?_
  refine s_alt ?_ ?_
  · refine s_yA rfl rfl (by exact yy) ?_ (chk_held (by exact ent))
    refine s_bsl [(⟨ys⟩ : St)] rfl rfl fun b11 => ?_
    refine s_app ?_
    intro wa' wc'
    refine sx ?_
    refine s_end0 rfl ⟨la', lc', wa', wc', rfl⟩ ?_
    refine Ent.trans ?_ Ob.shut
    refine Ent.cons (by exact rm) ?_
    refine Ent.cons (by exact rm) ?_
    refine Ent.cons (by exact rm) ?_
    refine Ent.famS (by exact rm) (by exact rm) ?_
    exact ent
  · refine s_bsl [(⟨ys⟩ : St)] rfl rfl fun b11 => ?_
    refine s_yA rfl rfl (by exact yy) ?_ (chk_held (by exact ent))
    refine s_app ?_
    intro wa' wc'
    refine sx ?_
    refine s_end0 rfl ⟨la', lc', wa', wc', rfl⟩ ?_
    refine Ent.trans ?_ Ob.shut
    refine Ent.cons (by exact rm) ?_
    refine Ent.cons (by exact rm) ?_
    refine Ent.cons (by exact rm) ?_
    refine Ent.famS (by exact rm) (by exact rm) ?_
    exact ent
end Go.Sx
namespace Go.Sx
open Go
theorem app_runW {P : Program} {w : World} {T E : TypeId} {sz by' : Nat} [hT : SlT P T E sz by'] {B : Nat} {a : Option Addr} {ad : Addr} {k c m c2 : Nat} {xs news : List Value} (ty : TypeId) (hsz : 0 < sz)
    (hown : Own w B E sz a k c xs) (hsrc : Cells w ad news) (hm : news.length = m * sz) (h1 : ∀ v ∈ news, v.oneCell' = true)
    (hby : ((k + m) + (k + m) / 4 + 192) * by' ≤ 281474976710656) (hle : k + m ≤ maxLen) (hB : B ≤ w.heap.size) :
    ∃ a' c' w', (Builtin.append_ #[T, T] ty #[.slice a k c, .slice (some ad) m c2]).run P w = .ok (.slice a' (k + m) c') w' ∧ Own w' B E sz a' (k + m) c' (xs ++ news) ∧
      Ext (fun i => a.map (·.block) = some i) w w' ∧ ∀ ad', a' = some ad' → a.map (·.block) = some ad'.block ∨ w.heap.size ≤ ad'.block := by
  obtain ⟨i, z, i1, i2, i3, i4, i5⟩ := hT.info
  have shape : ∀ {v' : Value} {w' : World} {B' : Nat}, w'.ownsRow B' E sz v' (k + m) (xs ++ news) → ∃ a' c', v' = .slice a' (k + m) c' := by
    intro v' w' B' r2
    rcases r2.2 with ⟨h, h0⟩ | ⟨g, cap, cur, h, _⟩
    · rw [h0]; exact ⟨none, 0, h⟩
    · exact ⟨_, _, h⟩
  rcases hown.open with ⟨rfl, rfl, rfl, rfl⟩ | ⟨g, rest, rfl, hb, hg, h2, h3, h4⟩
  · obtain ⟨v', w', r1, r2, r3, r4⟩ := run_append_own_wide (P := P) w w.heap.size T ty E i z sz by' hT.und i1 i2 i3 i4 i5 hsz (.slice none 0 0) 0 [] (World.ownsRow_nil w w.heap.size E sz) ad m c2 news hm hsrc h1 hle hby (Nat.le_refl _)
    obtain ⟨a', c', rfl⟩ := shape r2
    have r2 := Own.of_row r2
    refine ⟨a', c', w', r1, Own.mono r2 hB, (Ext.of_grown r3).mono (fun i _ h => by simp [Value.ownBlock] at h), fun ad' e => .inr ?_⟩
    subst e
    exact (Own.ge r2).1
  · by_cases hroom : k + m ≤ c
    · have hkl := hown.len
      have hle2 : (k + m) * sz ≤ c * sz := Nat.mul_le_mul_right _ hroom
      rw [Nat.add_mul] at hle2
      have hr := run_append_room (P := P) w T ty E i hT.und i1 g k c (xs ++ rest).toArray hg ad m c2 news (by rw [i3]; exact hm) hsrc h1 hroom (by rw [i3, List.size_toArray, List.length_append]; omega)
      rw [i3] at hr
      have e1 : (xs ++ rest).toArray.toList.take (k * sz) ++ news ++ (xs ++ rest).toArray.toList.drop (k * sz + news.length) = (xs ++ news) ++ rest.drop news.length := by
        have q1 : (xs ++ rest).take (k * sz) = xs := by rw [← hkl]; exact List.take_left
        have q2 : (xs ++ rest).drop (k * sz + news.length) = rest.drop news.length := by rw [← hkl, ← List.drop_drop, List.drop_left]
        show (xs ++ rest).take (k * sz) ++ news ++ (xs ++ rest).drop (k * sz + news.length) = _
        rw [q1, q2]
      rw [e1] at hr
      have hB' : HB (w.setRow g ((xs ++ news) ++ rest.drop news.length).toArray) g E ((xs ++ news) ++ rest.drop news.length) := setRow_heap w g _ _ E (0, 0) hg
      refine ⟨_, _, _, hr, Own.mk' hb hB' (by rw [List.length_append, hkl, hm, Nat.add_mul]) hroom h3 (by rw [List.length_append, List.length_drop]; omega), ⟨rfl, rfl, rfl, by simp [World.setRow], fun i _ hn => setRow_other w g i _ (fun e => hn (by rw [e]; rfl))⟩, fun ad' e => .inl (by cases e; rfl)⟩
    · have hge : k + m ≤ grownCap w (k + m) c E := grownCap_ge w (k + m) c E
      have hcm : grownCap w (k + m) c E ≤ maxLen := grownCap_le_maxLen w (k + m) c E hle
      have hr := run_append_grow (P := P) w T ty E i z hT.und i1 i2 ⟨g, 0, none⟩ k c xs (by rw [i3]; exact hown.len) hown.cells ad m c2 news (by rw [i3]; exact hm) hsrc (by omega) (by simp only [maxLen] at hle; omega)
        (by rw [i4]; exact growslice_fits_wide (by omega) hby)
      refine ⟨_, _, _, hr, ?_, (Ext.drew w).trans (Ext.alloc _ _), fun ad' e => .inr (by cases e; exact Nat.le_refl _)⟩
      refine Own.mk (rest := (Builtin.zeroCells z.cells (grownCap w (k + m) c E - (k + m))).toList) hB ?_ (by simp [hown.len, hm, Nat.add_mul]) hge hcm ?_
      · have := heap_alloc_new w.drew (.cells (xs.toArray ++ news.toArray ++ Builtin.zeroCells z.cells (grownCap w (k + m) c E - (k + m))) E)
        refine this.trans ?_
        simp
      · simp only [List.length_append, Array.length_toList, size_zeroCells, i5, hown.len, hm, ← Nat.add_mul]
        congr 1
        omega
section
variable {M : Mode} {P : Program} {n : Nat} {ds : Dx} {ops : Array Oper} {Q : Exit → Act → World → Prop} {b : Bool} {rest : Tr} {l : List (Nat × Value)} {w : World}
variable {ty : TypeId} {pos : String} {af : Array Edge} {g : Option (Nat × Bool)}
theorem l_appW {d : Nat} {T E : TypeId} {sz by' : Nat} [hT : SlT P T E sz by'] {s x : Operand} {B : Nat} {a a2 : Option Addr} {k c m c2 : Nat} {xs news : List Value} (hsz : 0 < sz) (hb : (M.any || !b) = true) (hg : gOk ops l g = true) (hd : Nat.blt d n = true)
    (hs : ev l s = some (.slice a k c)) (hx : ev l x = some (.slice a2 m c2)) (hown : Own w B E sz a k c xs) (hsrc : Src w a2 news) (hnil : a2 = none → c2 = 0) (hm : news.length = m * sz) (h1 : ∀ v ∈ news, v.oneCell' = true)
    (hby : ((k + m) + (k + m) / 4 + 192) * by' ≤ 281474976710656) (hle : k + m ≤ maxLen) (hB : B ≤ w.heap.size)
    (h : ∀ a' c' w', Own w' B E sz a' (k + m) c' (xs ++ news) → Ext (fun i => a.map (·.block) = some i) w w' → (∀ ad', a' = some ad' → a.map (·.block) = some ad'.block ∨ w.heap.size ≤ ad'.block) →
      M.chk w' ∧ LJ M P n ds ops Q rest ((d, .slice a' (k + m) c') :: l) w') :
    LJ M P n ds ops Q (.one b ⟨some d, .call { callee := .builtin .append, args := #[s, x], argTypes := #[T, T] }, ty, pos, af, g⟩ rest) l w := by
  obtain ⟨i, z, i1, i2, i3, i4, i5⟩ := hT.info
  cases a2 with
  | none =>
    have hnews := hsrc.1 rfl
    subst hnews
    have hm0 : m = 0 := by
      simp only [List.length_nil] at hm
      rcases Nat.eq_zero_or_pos m with h | h
      · exact h
      · have := Nat.mul_pos h hsz; omega
    have hc0 := hnil rfl
    subst hm0
    subst hc0
    have hr : (Builtin.append_ #[T, T] ty #[.slice a k c, .slice none 0 0]).run P w = .ok (.slice a k c) w := by
      have hkc := hown.le.1
      rcases hown.open with ⟨rfl, rfl, rfl, rfl⟩ | ⟨g, rest, rfl, _⟩
      · simp [Builtin.append_, run_underlying hT.und, sizeOf, typeInfo, i1, Builtin.lenOf, Builtin.firstCells]
      · simp [Builtin.append_, run_underlying hT.und, sizeOf, typeInfo, i1, Builtin.lenOf, Builtin.firstCells, hkc, storeCells]
    obtain ⟨h5, h6⟩ := h a c w (by simpa using hown) (Ext.refl w) (fun ad e => .inl (by rw [e]; rfl))
    refine l_e hb hg hd (fun ρ hρ => ?_) h5 h6
    simp [execOp, resolve, invoke, builtin, hρ _ _ hs, hρ _ _ hx, hr]
  | some ad =>
    obtain ⟨a', c', w', r1, r2, r3, r4⟩ := app_runW (P := P) (T := T) (c2 := c2) ty hsz hown (hsrc.2 ad rfl) hm h1 hby hle hB
    obtain ⟨h5, h6⟩ := h a' c' w' r2 r3 r4
    refine l_e hb hg hd (fun ρ hρ => ?_) h5 h6
    simp [execOp, resolve, invoke, builtin, hρ _ _ hs, hρ _ _ hx, r1]
end
section
variable {P : Program} {n : Nat} {ds : Dx} {Q : Exit → Act → World → Prop} {l l' : List (Nat × Value)} {w0 : World} {H : List Ck} {M : Md} {ops : Array Oper} {rest : Tr} {b : Bool} {ty : TypeId} {pos : String} {af : Array Edge} {g : Option (Nat × Bool)}
variable {α : Type} [Cel α]
theorem s_appW {d : Nat} {T E : TypeId} {sz by' : Nat} [hT : SlT P T E sz by'] {s x : Operand} {a a2 : Option Addr} {c c2 : Nat} {k m : Nat} {xs ys : List α} {H' : Option Addr → Nat → List Ck} (h : ∀ a' c', SL M P n ds ops Q rest ((d, .slice a' (xs ++ ys).length c') :: l) w0 (H' a' c'))
    (hs : ev l s = some (.slice a k c) := by exact rfl) (hx : ev l x = some (.slice a2 m c2) := by exact rfl)
    (hsrc : RSl w0 H a2 c2 ys := by exact rsl) (hm : m = ys.length := by first | exact rfl | omega | simp) (hA : ∀ a' c', At (ol E a c xs) (ol E a' c' (xs ++ ys)) H (H' a' c') := by intro _ _; exact at_) (hk0 : k = xs.length := by first | exact rfl | omega | simp) (hby : ((xs.length + ys.length) + (xs.length + ys.length) / 4 + 192) * by' ≤ 281474976710656 := by first | omega | (simp only [List.length_append, List.length_cons, List.length_nil, List.length_map, List.length_take, List.length_drop, List.length_replicate]; omega))
    (hb : M.act b = true := by exact rfl) (hg : gOk ops l g = true := by exact rfl) (hd : Nat.blt d n = true := by exact rfl) (hz : sz = Cel.sz α := by exact rfl) (hy1 : Nat.ble 1 by' = true := by exact rfl) (hk : ∀ a' c', Chk M (H' a' c') := by intros; first | exact chk_seq | exact chk_held (by exact ent)) :
    SL M P n ds ops Q (.one b ⟨some d, .call { callee := .builtin .append, args := #[s, x], argTypes := #[T, T] }, ty, pos, af, g⟩ rest) l w0 H := .mk fun w hw => by
  subst hz
  subst hm
  subst hk0
  have h1 := Nat.le_of_ble_eq_true hy1
  have h2 := Nat.le_mul_of_pos_right ((xs.length + ys.length) + (xs.length + ys.length) / 4 + 192) h1
  have hS := hsrc w hw
  refine l_appW (Cel.pos (α := α)) (Md.any hb) hg hd hs hx (Sat.ownOf (hA none 0) hw) hS.src hS.nil (flat_length ys) (flat_oneC ys) hby (by simp only [maxLen]; omega) hw.size fun a' c' w' ho he hf => ?_
  have e : flat xs ++ flat ys = flat (xs ++ ys) := by simp [flat]
  rw [e, ← List.length_append] at ho
  rw [← List.length_append]
  have hw' := hw.own (hA a' c') ho he hf
  exact ⟨(hk a' c').out hw', (h a' c').out w' hw'⟩
end
end Go.Sx

