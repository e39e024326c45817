/- Part of a proof: what is lent stays; then its owner writes over it. -/
import Derived.Test.YtolnmecncilpeaaCBD
namespace Go.Sx
open Go Go.Proofs
set_option maxRecDepth 10000
section
variable {P : Program} {S : World → Prop} {l : List (Nat × Value)} {d : Option Nat} {ty : TypeId} {pos : String} {af : Array Edge} {g : Option (Nat × Bool)}
theorem y_addW {x y : Operand} {T U : TypeId} {a b : Int} (hx : ev l x = some (.int .i64 a)) (hy : ev l y = some (.int .i64 b)) :
    Y P S ⟨d, .binOp .add T x y U, ty, pos, af, g⟩ l (.int .i64 (IntKind.i64.wrap (a + b))) := .mk fun w _ ρ hρ => by
  simp [execOp, hρ _ _ hx, hρ _ _ hy, go_sem, Op.intArith]
end
variable {w0 : World} {H : List Ck}
theorem RSl.flat {α : Type} [Cel α] {a : Option Addr} {c : Nat} {xs ys : List α} (h : RSl w0 H a c xs) (hl : ys.length = xs.length) (hf : flat ys = flat xs) : RSl w0 H a c ys := fun w hs => by
  have h' := h w hs
  exact ⟨by rw [hl]; exact h'.le, h'.cap, h'.nil, fun ad e => by rw [hf]; exact h'.cells ad e⟩
def up7 (n : Int) : Int := IntKind.i64.wrap (n + 7)
def xS (f : SB) : SB := ⟨f.a, f.c, f.xs.map (· ^^^ 21)⟩
theorem xS_flat (fs : List SB) : flat (fs.map xS) = flat fs := by
  induction fs with
  | nil => rfl
  | cons f r ih => simp only [List.map_cons, flat, List.flatMap_cons] at ih ⊢; rw [ih]; simp [xS, Cel.f, SB.val]
theorem kM3_xS (f : SB) : (xS (kM3 f)).xs.take f.xs.length = (xS f).xs := by simp [xS, kM3]
/-- The children as they are behind it. -/
def Bl.k' (L : Bl) : Kd := ⟨L.pa, L.pc, L.ps.map up7, L.la, L.lc, L.fs.map xS⟩
def Bl.cs' (L : Bl) : List Ck := [ol 3 L.pa L.pc ((L.ps ++ [-9, -9, -9]).map up7), ol 23 L.ka L.kc (L.fs.map kM3), ol 23 L.la L.lc (L.fs ++ [bMk L.b1, bMk L.b2]), fam 5 ((L.fs.map kM3).map xS), .ro L.b1 (flat mkB), .ro L.b2 (flat mkB)]
theorem Bl.rkd {L : Bl} : RKd w0 (.star L.cs :: H) L.k := by
  refine ⟨?_, ?_, fun f hf => ?_⟩
  · have := (RSl.ent (RSl.hd (w0 := w0) (E := 3) (a := L.pa) (c := L.pc) (xs := L.ps ++ [-9, -9, -9])) (Ent.mem' (L := L.cs) (H := H) (by simp [Bl.cs]))).take (k := L.ps.length) (by simp)
    rwa [List.take_left' rfl] at this
  · have := (RSl.ent (RSl.hd (w0 := w0) (E := 23) (a := L.la) (c := L.lc) (xs := L.fs ++ [bMk L.b1, bMk L.b2])) (Ent.mem' (L := L.cs) (H := H) (by simp [Bl.cs]))).take (k := L.fs.length) (by simp)
    rwa [List.take_left' rfl] at this
  · have := (RBy.ent (RBy.hd (w0 := w0) (E := 5) (a := f.a) (c := f.c) (xs := f.xs ++ mk3)) ((Ent.mem' (L := L.cs) (H := H) (c := fam 5 (L.fs.map kM3)) (by simp [Bl.cs])).trans (fam_mem (s := kM3 f) (List.mem_map.2 ⟨f, hf, rfl⟩)))).take (k := f.xs.length) (by simp)
    rwa [List.take_left' rfl] at this
theorem Bl.rkd' {L : Bl} : RKd w0 (.star L.cs' :: H) L.k' := by
  refine ⟨?_, ?_, fun f hf => ?_⟩
  · have := (RSl.ent (RSl.hd (w0 := w0) (E := 3) (a := L.pa) (c := L.pc) (xs := (L.ps ++ [-9, -9, -9]).map up7)) (Ent.mem' (L := L.cs') (H := H) (by simp [Bl.cs']))).take (k := L.ps.length) (by simp)
    rwa [List.map_append, List.take_left' (by simp)] at this
  · have := (RSl.ent (RSl.hd (w0 := w0) (E := 23) (a := L.la) (c := L.lc) (xs := L.fs ++ [bMk L.b1, bMk L.b2])) (Ent.mem' (L := L.cs') (H := H) (by simp [Bl.cs']))).take (k := L.fs.length) (by simp)
    rw [List.take_left' rfl] at this
    exact this.flat (by simp [Bl.k']) (xS_flat _)
  · obtain ⟨g, hg, rfl⟩ := List.mem_map.1 hf
    have := (RBy.ent (RBy.hd (w0 := w0) (E := 5) (a := g.a) (c := g.c) (xs := (xS (kM3 g)).xs)) ((Ent.mem' (L := L.cs') (H := H) (c := fam 5 ((L.fs.map kM3).map xS)) (by simp [Bl.cs'])).trans (fam_mem (s := xS (kM3 g)) (List.mem_map.2 ⟨_, List.mem_map.2 ⟨g, hg, rfl⟩, rfl⟩)))).take (k := g.xs.length) (by simp [xS, kM3])
    rwa [kM3_xS] at this
theorem i64_wrap_bd (x : Int) : -9223372036854775808 ≤ IntKind.i64.wrap x ∧ IntKind.i64.wrap x ≤ 9223372036854775807 := by
  simp only [IntKind.wrap, IntKind.bits, IntKind.signed]
  simp
  split <;> omega
def upL (pl : List Int) (i : Nat) : List Int := (pl.take i).map up7 ++ pl.drop i
theorem m9 {ps : List Int} {i : Nat} {p : Int} (h : (ps ++ [-9, -9, -9])[i]? = some p) (hi : ps.length ≤ i) : p = -9 := by
  rw [List.getElem?_append_right hi] at h
  have := List.mem_of_getElem? h
  simpa using this
theorem m7 {f : SB} {i : Nat} {p : UInt8} (h : (kM3 f).xs[i]? = some p) (hi : f.xs.length ≤ i) : p = 167 := by
  rw [kM3, List.getElem?_append_right hi] at h
  have := List.mem_of_getElem? h
  simpa [mk3] using this
theorem upL_len (pl : List Int) (i : Nat) : (upL pl i).length = pl.length := by simp only [upL, List.length_append, List.length_map, List.length_take, List.length_drop]; omega
theorem upL_get {pl : List Int} {i : Nat} {p : Int} (h : pl[i]? = some p) : (upL pl i)[i]? = some p := by
  have hi := (List.getElem?_eq_some_iff.1 h).1
  rw [upL, dropG h, List.getElem?_append_right (by simp; omega)]
  simp [Nat.min_eq_left (Nat.le_of_lt hi)]
theorem upL_set {pl : List Int} {i : Nat} {p : Int} (h : pl[i]? = some p) : (upL pl i).set i (up7 p) = upL pl (i + 1) := by
  have hi := (List.getElem?_eq_some_iff.1 h).1
  rw [upL, upL, dropG h, List.set_append_right _ _ (by simp; omega), snocT h]
  simp [Nat.min_eq_left (Nat.le_of_lt hi)]
def xoL (xs : Bs) (i : Nat) : Bs := (xs.take i).map (· ^^^ 21) ++ xs.drop i
theorem xoL_len (pl : Bs) (i : Nat) : (xoL pl i).length = pl.length := by simp only [xoL, List.length_append, List.length_map, List.length_take, List.length_drop]; omega
theorem xoL_get {pl : Bs} {i : Nat} {p : UInt8} (h : pl[i]? = some p) : (xoL pl i)[i]? = some p := by
  have hi := (List.getElem?_eq_some_iff.1 h).1
  rw [xoL, dropG h, List.getElem?_append_right (by simp; omega)]
  simp [Nat.min_eq_left (Nat.le_of_lt hi)]
theorem xoL_set {pl : Bs} {i : Nat} {p : UInt8} (h : pl[i]? = some p) : (xoL pl i).set i (p ^^^ 21) = xoL pl (i + 1) := by
  have hi := (List.getElem?_eq_some_iff.1 h).1
  rw [xoL, xoL, dropG h, List.set_append_right _ _ (by simp; omega), snocT h]
  simp [Nat.min_eq_left (Nat.le_of_lt hi)]
theorem Bl.cells' {L : Bl} : L.k'.cells = L.k.cells := by simp [Kd.cells, Bl.k', Bl.k]
theorem Bl.len' {L : Bl} : L.k'.keys.map List.length = L.k.keys.map List.length := by simp [Kd.keys, Bl.k', Bl.k, xS]
theorem Bl.I64' {L : Bl} : ∀ n ∈ L.k'.ps, I64 n := fun n hn => by
  obtain ⟨m, _, rfl⟩ := List.mem_map.1 hn
  have := i64_wrap_bd (m + 7)
  exact this
set_option maxHeartbeats 1000000 in
theorem stays_s {L : Bl} {k : Kd} (hk : RKd w0 H k) (hd : L.k.d = k.d) (hm : ksm9 k) :
    FnS Try.prog w0 (L.hb :: .star L.cs :: H) 22 #[.pointer (some ⟨L.b, 0, none⟩), .agg k.cells.toArray] (fun v H' => v = .bool true ∧ H' = L.hb :: .star L.cs' :: H) := by
  obtain ⟨B, pa, pc, ps, ka, kc, la, lc, fs, b1, b2⟩ := L
  have hpl : ps.length = k.ps.length := by have := congrArg (fun d => d.1.length) hd; exact this
  have hfl : fs.length = k.ks.length := by have := congrArg (fun d => d.2.length) hd; simpa [Kd.d, Kd.keys, Bl.k] using this
  have hfx : fs.map SB.xs = k.ks.map SB.xs := congrArg Prod.snd hd
  obtain ⟨hm1, hm2⟩ := hm
  have hps := hk.ps
  have hks := hk.ks
  have hkl := keysB_len k.keys
  simp only [List.length_map] at hkl
  refine fns_enter Try.func22 rfl rfl rfl ?_
  refine s_ent (.hb B 45 [.slice pa ps.length pc, .slice la fs.length lc, .slice pa (ps.length + 3) pc, .slice ka fs.length kc, .slice la (fs.length + 2) lc] :: ol 3 pa pc ((ps ++ [-9, -9, -9])) :: ol 23 ka kc (fs.map kM3) :: ol 23 la lc (fs ++ [bMk b1, bMk b2]) :: fam 5 (fs.map kM3) :: .ro b1 (flat mkB) :: .ro b2 (flat mkB) :: H) (Ent.head (Ent.open Ent.refl)) ?_
  refine s_kn (φ := ∃ ad, pa = some ad) (fun w hw => own_gA (c := pc) (Sat.ownOf (c' := ol 3 pa pc (ps ++ [-9, -9, -9])) (.tl .hd) hw) (by simp)) ?_
  rintro ⟨pad, rfl⟩
  refine sx ?_
  refine s_boxA rfl fun b3 => ?_
  refine sx ?_
  have hpl3 : (ps ++ [-9, -9, -9] : List Int).length = ps.length + 3 := by simp
  have hfm : (fs.map kM3).length = fs.length := by simp
  have r1 : RKd w0 (.hb b3 31 k.cells :: .hb B 45 [.slice (some pad) ps.length pc, .slice la fs.length lc, .slice (some pad) (ps.length + 3) pc, .slice ka fs.length kc, .slice la (fs.length + 2) lc] :: ol 3 (some pad) pc ((ps ++ [-9, -9, -9])) :: ol 23 ka kc (fs.map kM3) :: ol 23 la lc (fs ++ [bMk b1, bMk b2]) :: fam 5 (fs.map kM3) :: .ro b1 (flat mkB) :: .ro b2 (flat mkB) :: H) ⟨some pad, pc, ps, la, lc, fs⟩ := RKd.tl (RKd.tl (RKd.ent (Bl.rkd (L := ⟨B, some pad, pc, ps, ka, kc, la, lc, fs, b1, b2⟩)) (Ent.star Ent.refl)))
  refine sx ?_; refine s_dr (.one true 0 (.one true 1 (.one true 2 (.one true 3 (.one true 4 (.one false 5 (.one true 6 .nil))))))) mixed (by kernel_rfl) ?_; refine sx ?_
  refine s_callV rfl (rsame_t (k := ⟨some pad, pc, ps, la, lc, fs⟩) (q := k) (by exact r1) (by exact rkd) hd) ?_
  refine sx ?_
  refine s_loop (fun i : Nat => [(0, .pointer (some ⟨B, 0, none⟩)), (3, .pointer (some ⟨b3, 0, none⟩)), (5, .bool true), (6, .int .i64 i)]) (fun i => .hb b3 31 k.cells :: .hb B 45 [.slice (some pad) ps.length pc, .slice la fs.length lc, .slice (some pad) (ps.length + 3) pc, .slice ka fs.length kc, .slice la (fs.length + 2) lc] :: ol 3 (some pad) pc (upL (ps ++ [-9, -9, -9]) i) :: ol 23 ka kc (fs.map kM3) :: ol 23 la lc (fs ++ [bMk b1, bMk b2]) :: fam 5 (fs.map kM3) :: .ro b1 (flat mkB) :: .ro b2 (flat mkB) :: H) (fun i => i ≤ ps.length + 3) (fun i => ps.length + 3 - i) 0 (Nat.zero_le _) ?_
  intro i hi
  have hul := upL_len (ps ++ [-9, -9, -9]) i
  refine sx ?_
  refine s_if rfl (fun t1 => ?_) (fun t1 => ?_)
  · obtain ⟨p, hp⟩ := get_lt (ps ++ [-9, -9, -9]) i (by omega)
    have hup := upL_get hp
    have r2 : RSl w0 (.hb b3 31 k.cells :: .hb B 45 [.slice (some pad) ps.length pc, .slice la fs.length lc, .slice (some pad) (ps.length + 3) pc, .slice ka fs.length kc, .slice la (fs.length + 2) lc] :: ol 3 (some pad) pc (upL (ps ++ [-9, -9, -9]) i) :: ol 23 ka kc (fs.map kM3) :: ol 23 la lc (fs ++ [bMk b1, bMk b2]) :: fam 5 (fs.map kM3) :: .ro b1 (flat mkB) :: .ro b2 (flat mkB) :: H) (some pad) pc (upL (ps ++ [-9, -9, -9]) i) := by exact rsl
    refine sx ?_
    refine s_lif rfl (fun t2 => ?_) (fun t2 => ?_)
    · refine sx ?_
      refine sx ?_; refine s_drH (.hb b3 31 k.cells :: .hb B 45 [.slice (some pad) ps.length pc, .slice la fs.length lc, .slice (some pad) (ps.length + 3) pc, .slice ka fs.length kc, .slice la (fs.length + 2) lc] :: H) (.one true 0 (.one true 1 (.one true 2 (.one true 3 (.one true 4 (.one true 5 (.one true 6 (.one true 7 (.one true 8 (.one true 9 (.one true 10 (.one false 11 (.one true 12 (.one true 13 (.one false 14 .nil))))))))))))))) mixed (by kernel_rfl) ?_; refine sx ?_
      refine s_yA rfl rfl (by exact yy) ?_ (chk_held (by exact ent))
      refine s_yH rfl rfl rfl (y_addW rfl rfl) ?_
      refine sx ?_
      refine s_set1 (y := up7 p) (i := i) rfl rfl (by exact at_) rfl (by omega) ?_
      refine sx ?_
      refine s_again (i + 1) (by omega) (by omega) (he := ?_)
      rw [upL_set hp]
      exact ent
    · obtain rfl : p = -9 := m9 hp (by omega)
      refine sx ?_
      refine sx ?_; refine s_drH (.hb b3 31 k.cells :: .hb B 45 [.slice (some pad) ps.length pc, .slice la fs.length lc, .slice (some pad) (ps.length + 3) pc, .slice ka fs.length kc, .slice la (fs.length + 2) lc] :: H) (.one true 0 (.one true 1 (.one true 2 (.one true 3 (.one true 4 (.one true 5 (.one true 6 (.one true 7 (.one true 8 (.one true 9 (.one true 10 (.one false 11 (.one true 12 (.one true 13 (.one false 14 .nil))))))))))))))) mixed (by kernel_rfl) ?_; refine sx ?_
      refine s_yA rfl rfl (by exact yy) ?_ (chk_held (by exact ent))
      refine s_yH rfl rfl rfl (y_addW rfl rfl) ?_
      refine sx ?_
      refine s_set1 (y := up7 (-9)) (i := i) rfl rfl (by exact at_) rfl (by omega) ?_
      refine sx ?_
      refine s_again (i + 1) (by omega) (by omega) (he := ?_)
      rw [upL_set hp]
      exact ent
  have hue : upL (ps ++ [-9, -9, -9]) i = (ps ++ [-9, -9, -9]).map up7 := by rw [upL, List.take_of_length_le (by omega), List.drop_of_length_le (by omega), List.append_nil]
  rw [hue]
  clear hue hul hi t1
  refine sx ?_
  refine s_loop (fun j : Nat => [(0, .pointer (some ⟨B, 0, none⟩)), (3, .pointer (some ⟨b3, 0, none⟩)), (5, .bool true), (7, .int .i64 j)]) (fun _ => .hb b3 31 k.cells :: .hb B 45 [.slice (some pad) ps.length pc, .slice la fs.length lc, .slice (some pad) (ps.length + 3) pc, .slice ka fs.length kc, .slice la (fs.length + 2) lc] :: ol 3 (some pad) pc (((ps ++ [-9, -9, -9]).map up7)) :: ol 23 ka kc (fs.map kM3) :: ol 23 la lc (fs ++ [bMk b1, bMk b2]) :: fam 5 (fs.map kM3) :: .ro b1 (flat mkB) :: .ro b2 (flat mkB) :: H) (fun j => fs.length ≤ j ∧ j ≤ fs.length + 2) (fun j => fs.length + 2 - j) fs.length ⟨Nat.le_refl _, by omega⟩ ?_
  rintro j ⟨hj1, hj2⟩
  have hll : (fs ++ [bMk b1, bMk b2]).length = fs.length + 2 := by simp
  have r3 : RSl w0 (.hb b3 31 k.cells :: .hb B 45 [.slice (some pad) ps.length pc, .slice la fs.length lc, .slice (some pad) (ps.length + 3) pc, .slice ka fs.length kc, .slice la (fs.length + 2) lc] :: ol 3 (some pad) pc (((ps ++ [-9, -9, -9]).map up7)) :: ol 23 ka kc (fs.map kM3) :: ol 23 la lc (fs ++ [bMk b1, bMk b2]) :: fam 5 (fs.map kM3) :: .ro b1 (flat mkB) :: .ro b2 (flat mkB) :: H) la lc (fs ++ [bMk b1, bMk b2]) := by exact rsl
  refine sx ?_
  refine s_if rfl (fun t1 => ?_) (fun t1 => ?_)
  · obtain ⟨p, hp, hpx, hpr⟩ : ∃ p : SB, (fs ++ [bMk b1, bMk b2])[j]? = some p ∧ p.xs = mkB ∧ RBy w0 (.hb b3 31 k.cells :: .hb B 45 [.slice (some pad) ps.length pc, .slice la fs.length lc, .slice (some pad) (ps.length + 3) pc, .slice ka fs.length kc, .slice la (fs.length + 2) lc] :: ol 3 (some pad) pc (((ps ++ [-9, -9, -9]).map up7)) :: ol 23 ka kc (fs.map kM3) :: ol 23 la lc (fs ++ [bMk b1, bMk b2]) :: fam 5 (fs.map kM3) :: .ro b1 (flat mkB) :: .ro b2 (flat mkB) :: H) p.a p.c p.xs := by
      rcases (by omega : j = fs.length ∨ j = fs.length + 1) with rfl | rfl
      · exact ⟨bMk b1, by simp, rfl, RBy.tl (RBy.tl (RBy.tl (RBy.tl (RBy.tl (RBy.tl (RBy.ro (xs := mkB) rfl (by decide)))))))⟩
      · exact ⟨bMk b2, by simp, rfl, RBy.tl (RBy.tl (RBy.tl (RBy.tl (RBy.tl (RBy.tl (RBy.tl (RBy.ro (xs := mkB) rfl (by decide))))))))⟩
    refine sx ?_
    refine s_rwQ (t := 5) (v' := .bool true) rfl (by rw [hpx]; rfl) ?_
    exact s_again (j + 1) ⟨by omega, by omega⟩ (by omega)
  · clear hj1 hj2 t1 r3
    refine sx ?_
    refine s_loop (fun j : Nat => [(0, .pointer (some ⟨B, 0, none⟩)), (3, .pointer (some ⟨b3, 0, none⟩)), (5, .bool true), (8, .int .i64 j)]) (fun j => .hb b3 31 k.cells :: .hb B 45 [.slice (some pad) ps.length pc, .slice la fs.length lc, .slice (some pad) (ps.length + 3) pc, .slice ka fs.length kc, .slice la (fs.length + 2) lc] :: ol 3 (some pad) pc (((ps ++ [-9, -9, -9]).map up7)) :: ol 23 ka kc (fs.map kM3) :: ol 23 la lc (fs ++ [bMk b1, bMk b2]) :: fam 5 (((fs.map kM3).map xS).take (j)) :: fam 5 ((fs.map kM3).drop (j)) :: .ro b1 (flat mkB) :: .ro b2 (flat mkB) :: H) (fun j => j ≤ fs.length) (fun j => fs.length - j) 0 (Nat.zero_le _) ?_ (he := fam_nil.trans ent)
    intro j hj
    have r4 : RSl w0 (.hb b3 31 k.cells :: .hb B 45 [.slice (some pad) ps.length pc, .slice la fs.length lc, .slice (some pad) (ps.length + 3) pc, .slice ka fs.length kc, .slice la (fs.length + 2) lc] :: ol 3 (some pad) pc (((ps ++ [-9, -9, -9]).map up7)) :: ol 23 ka kc (fs.map kM3) :: ol 23 la lc (fs ++ [bMk b1, bMk b2]) :: fam 5 (((fs.map kM3).map xS).take (j)) :: fam 5 ((fs.map kM3).drop (j)) :: .ro b1 (flat mkB) :: .ro b2 (flat mkB) :: H) ka kc (fs.map kM3) := by exact rsl
    refine sx ?_
    refine s_if rfl (fun t1 => ?_) (fun t1 => ?_)
    · obtain ⟨f, hf⟩ := get_lt fs j (by omega)
      obtain ⟨p, hp⟩ := get_lt k.ks j (by omega)
      have hkf : (fs.map kM3)[j]? = some (kM3 f) := by simp [hf]
      have hkx : ((fs.map kM3).map xS)[j]? = some (xS (kM3 f)) := by simp [hf]
      have hfp : f.xs = p.xs := by
        have := congrArg (fun l => l[j]?) hfx
        simpa [hf, hp] using this
      have hpk := hkl.2 _ (List.mem_of_getElem? (Kd.kget hp))
      refine s_ent (ob f.a f.c ((kM3 f).xs) :: .hb b3 31 k.cells :: .hb B 45 [.slice (some pad) ps.length pc, .slice la fs.length lc, .slice (some pad) (ps.length + 3) pc, .slice ka fs.length kc, .slice la (fs.length + 2) lc] :: ol 3 (some pad) pc (((ps ++ [-9, -9, -9]).map up7)) :: ol 23 ka kc (fs.map kM3) :: ol 23 la lc (fs ++ [bMk b1, bMk b2]) :: fam 5 (((fs.map kM3).map xS).take j) :: fam 5 ((fs.map kM3).drop (j + 1)) :: .ro b1 (flat mkB) :: .ro b2 (flat mkB) :: H) (by
        rw [dropG hkf]
        exact (Ent.famC (by exact rm)).trans (by exact ent)) ?_
      refine sx ?_
      have hkl3 : (kM3 f).xs.length = p.xs.length + 3 := by simp [kM3, mk3, hfp]
      refine s_kn (φ := ∃ ad, f.a = some ad) (fun w hw => own_gA (c := f.c) (Sat.ownOf (c' := ob f.a f.c (kM3 f).xs) .hd hw) (by omega)) ?_
      rintro ⟨fad, hfa⟩
      have hkv : (kM3 f).val = .slice (some fad) (p.xs.length + 3) f.c := by rw [SB.val, hkl3]; simp [kM3, hfa]
      rw [hfa]
      refine s_loop (fun m : Nat => [(0, .pointer (some ⟨B, 0, none⟩)), (3, .pointer (some ⟨b3, 0, none⟩)), (5, .bool true), (8, .int .i64 j), (9, .int .i64 m)]) (fun m => ob (some fad) f.c (xoL (kM3 f).xs m) :: .hb b3 31 k.cells :: .hb B 45 [.slice (some pad) ps.length pc, .slice la fs.length lc, .slice (some pad) (ps.length + 3) pc, .slice ka fs.length kc, .slice la (fs.length + 2) lc] :: ol 3 (some pad) pc (((ps ++ [-9, -9, -9]).map up7)) :: ol 23 ka kc (fs.map kM3) :: ol 23 la lc (fs ++ [bMk b1, bMk b2]) :: fam 5 (((fs.map kM3).map xS).take j) :: fam 5 ((fs.map kM3).drop (j + 1)) :: .ro b1 (flat mkB) :: .ro b2 (flat mkB) :: H) (fun m => m ≤ p.xs.length + 3) (fun m => p.xs.length + 3 - m) 0 (Nat.zero_le _) ?_
      intro m hm
      have hol := xoL_len (kM3 f).xs m
      have r5 : RSl w0 (ob (some fad) f.c (xoL (kM3 f).xs m) :: .hb b3 31 k.cells :: .hb B 45 [.slice (some pad) ps.length pc, .slice la fs.length lc, .slice (some pad) (ps.length + 3) pc, .slice ka fs.length kc, .slice la (fs.length + 2) lc] :: ol 3 (some pad) pc (((ps ++ [-9, -9, -9]).map up7)) :: ol 23 ka kc (fs.map kM3) :: ol 23 la lc (fs ++ [bMk b1, bMk b2]) :: fam 5 (((fs.map kM3).map xS).take j) :: fam 5 ((fs.map kM3).drop (j + 1)) :: .ro b1 (flat mkB) :: .ro b2 (flat mkB) :: H) ka kc (fs.map kM3) := by exact rsl
      have r6 : RSl w0 (.hb b3 31 k.cells :: .hb B 45 [.slice (some pad) ps.length pc, .slice la fs.length lc, .slice (some pad) (ps.length + 3) pc, .slice ka fs.length kc, .slice la (fs.length + 2) lc] :: ol 23 ka kc (fs.map kM3) :: H) ka kc (fs.map kM3) := by exact rsl
      have r7 : RBy w0 (ob (some fad) f.c (xoL (kM3 f).xs m) :: .hb b3 31 k.cells :: .hb B 45 [.slice (some pad) ps.length pc, .slice la fs.length lc, .slice (some pad) (ps.length + 3) pc, .slice ka fs.length kc, .slice la (fs.length + 2) lc] :: ol 3 (some pad) pc (((ps ++ [-9, -9, -9]).map up7)) :: ol 23 ka kc (fs.map kM3) :: ol 23 la lc (fs ++ [bMk b1, bMk b2]) :: fam 5 (((fs.map kM3).map xS).take j) :: fam 5 ((fs.map kM3).drop (j + 1)) :: .ro b1 (flat mkB) :: .ro b2 (flat mkB) :: H) (some fad) f.c (xoL (kM3 f).xs m) := by exact rby
      refine sx ?_
      refine s_if rfl (fun t2 => ?_) (fun t2 => ?_)
      · obtain ⟨u, hu⟩ := get_lt (kM3 f).xs m (by omega)
        have hug : (xoL (kM3 f).xs m).getD m 0 = u := by rw [List.getD_eq_getElem?_getD, xoL_get hu]; rfl
        refine sx ?_
        refine s_lif rfl (fun t3 => ?_) (fun t3 => ?_)
        · refine sx ?_
          refine sx ?_; refine s_drH (.hb b3 31 k.cells :: .hb B 45 [.slice (some pad) ps.length pc, .slice la fs.length lc, .slice (some pad) (ps.length + 3) pc, .slice ka fs.length kc, .slice la (fs.length + 2) lc] :: ol 23 ka kc (fs.map kM3) :: H) (.one true 0 (.one true 1 (.one true 2 (.one true 3 (.one true 4 (.one true 5 (.one true 6 (.one true 7 (.one true 8 (.one true 9 (.one true 10 (.one true 11 (.one true 12 (.one true 13 (.one true 14 (.one true 15 (.one true 16 (.one false 17 (.one true 18 (.one true 19 (.one false 20 .nil))))))))))))))))))))) mixed (by kernel_rfl) ?_; refine sx ?_
          refine s_rw (t := 140) rfl hkv ?_
          refine sx ?_
          refine s_yA rfl rfl (by exact yy) ?_ (chk_held (by exact ent))
          refine s_yH rfl rfl rfl (y_xorb (b := 21) rfl rfl) ?_
          refine s_rw (t := 132) rfl hkv ?_
          refine sx ?_
          refine s_set1 (y := (xoL (kM3 f).xs m).getD m 0 ^^^ 21) (i := m) rfl rfl (by exact at_) rfl (by omega) ?_
          refine sx ?_
          refine s_again (m + 1) (by omega) (by omega) (he := ?_)
          rw [hug, xoL_set hu]
          exact ent
        · have hu7 : u = 167 := m7 hu (by rw [hfp]; omega)
          subst hu7
          refine sx ?_
          refine s_rw (t := 119) rfl hkv ?_
          refine sx ?_
          refine sx ?_; refine s_drH (.hb b3 31 k.cells :: .hb B 45 [.slice (some pad) ps.length pc, .slice la fs.length lc, .slice (some pad) (ps.length + 3) pc, .slice ka fs.length kc, .slice la (fs.length + 2) lc] :: ol 23 ka kc (fs.map kM3) :: H) (.one true 0 (.one true 1 (.one true 2 (.one true 3 (.one true 4 (.one true 5 (.one true 6 (.one true 7 (.one true 8 (.one true 9 (.one true 10 (.one true 11 (.one true 12 (.one true 13 (.one true 14 (.one true 15 (.one true 16 (.one false 17 (.one true 18 (.one true 19 (.one false 20 .nil))))))))))))))))))))) mixed (by kernel_rfl) ?_; refine sx ?_
          refine s_rw (t := 140) rfl hkv ?_
          refine sx ?_
          refine s_yA rfl rfl (by exact yy) ?_ (chk_held (by exact ent))
          refine s_yH rfl rfl rfl (y_xorb (b := 21) rfl rfl) ?_
          refine s_rw (t := 132) rfl hkv ?_
          refine sx ?_
          refine s_set1 (y := (xoL (kM3 f).xs m).getD m 0 ^^^ 21) (i := m) rfl rfl (by exact at_) rfl (by omega) ?_
          refine sx ?_
          refine s_rwQ (t := 5) (v' := .bool true) rfl (by rw [hug]; rfl) ?_
          refine s_again (m + 1) (by omega) (by omega) (he := ?_)
          rw [hug, xoL_set hu]
          exact ent
      · have hxe : xoL (kM3 f).xs m = (xS (kM3 f)).xs := by rw [xoL, List.take_of_length_le (by omega), List.drop_of_length_le (by omega), List.append_nil]; rfl
        have hfa' : (some fad : Option Addr) = (xS (kM3 f)).a := hfa.symm
        rw [hxe, hfa']
        refine sx ?_
        refine s_again (j + 1) (by omega) (by omega) (he := ?_)
        rw [snocT hkx]
        refine Ent.cons (by exact rm) ?_
        refine Ent.cons (by exact rm) ?_
        refine Ent.cons (by exact rm) ?_
        refine Ent.cons (by exact rm) ?_
        refine Ent.cons (by exact rm) ?_
        refine Ent.famS (by exact rm) (by exact rm) ?_
        exact ent
    · have hje : j = fs.length := by omega
      rw [hje, List.take_of_length_le (by simp), List.drop_of_length_le (by simp)]
      refine sx ?_
      refine s_ret1 rfl rfl ⟨rfl, rfl⟩ ?_
      refine Ent.cons (by exact rm) ?_
      refine Ent.star ?_
      exact ent
end Go.Sx
