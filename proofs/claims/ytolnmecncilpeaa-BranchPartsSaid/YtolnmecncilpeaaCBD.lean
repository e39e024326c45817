/- Part of a proof: children that are lent. -/
import Derived.Test.YtolnmecncilpeaaCBC
namespace Go.Sx
open Go Go.Proofs
set_option maxRecDepth 10000
variable {w0 : World} {H : List Ck}
def mk3 : Bs := [167, 167, 167]
def mkB : Bs := [109, 97, 114, 107]
def kM3 (f : SB) : SB := ⟨f.a, f.c, f.xs ++ mk3⟩
def bMk (b : Nat) : SB := ⟨some ⟨b, 0, none⟩, 4, mkB⟩
/-- A loan: where its lists lie, the children as they are handed in. -/
structure Bl where
  b : Nat
  pa : Option Addr
  pc : Nat
  ps : List Int
  ka : Option Addr
  kc : Nat
  la : Option Addr
  lc : Nat
  fs : List SB
  b1 : Nat
  b2 : Nat
def Bl.k (L : Bl) : Kd := ⟨L.pa, L.pc, L.ps, L.la, L.lc, L.fs⟩
def Bl.cells (L : Bl) : List Value := [.slice L.pa L.ps.length L.pc, .slice L.la L.fs.length L.lc, .slice L.pa (L.ps.length + 3) L.pc, .slice L.ka L.fs.length L.kc, .slice L.la (L.fs.length + 2) L.lc]
def Bl.cs (L : Bl) : List Ck := [ol 3 L.pa L.pc (L.ps ++ [-9, -9, -9]), ol 23 L.ka L.kc (L.fs.map kM3), ol 23 L.la L.lc (L.fs ++ [bMk L.b1, bMk L.b2]), fam 5 (L.fs.map kM3), .ro L.b1 (flat mkB), .ro L.b2 (flat mkB)]
abbrev Bl.hb (L : Bl) : Ck := .hb L.b 45 L.cells
def ksm9 (k : Kd) : Prop := k.ps.length ≤ 2147483647 ∧ keysB k.keys ≤ 4294967294
structure BlI where
  ka : Option Addr
  kc : Nat
  la : Option Addr
  lc : Nat
  fs : List SB
def lnG {α : Type} (x z : α) (j : Nat) : List α := List.replicate j x ++ List.replicate (3 - j) z
theorem lnG_len {α : Type} {x z : α} {j : Nat} (h : j ≤ 3) : (lnG x z j).length = 3 := by
  simp only [lnG, List.length_append, List.length_replicate]; omega
theorem lnG_set {α : Type} {x z : α} {j : Nat} {ps : List α} (h : j < 3) : (ps ++ lnG x z j).set (ps.length + j) x = ps ++ lnG x z (j + 1) := by
  rw [List.set_append_right _ _ (by omega), Nat.add_sub_cancel_left]
  congr 1
  rcases (by omega : j = 0 ∨ j = 1 ∨ j = 2) with rfl | rfl | rfl <;> rfl
abbrev lnP (j : Nat) : List Int := lnG (-9) 0 j
abbrev lnB (j : Nat) : Bs := lnG 167 0 j
set_option maxHeartbeats 4000000 in
theorem lend_s {k : Kd} (hk : RKd w0 H k) (hm : ksm9 k) :
    FnS Try.prog w0 H 18 #[.agg k.cells.toArray] (fun v H' => ∃ L : Bl, v = .pointer (some ⟨L.b, 0, none⟩) ∧ L.k.d = k.d ∧ H' = L.hb :: .star L.cs :: H) := by
  refine fns_enter Try.func18 rfl rfl rfl ?_
  obtain ⟨hm1, hm2⟩ := hm
  have hps := hk.ps
  have hks := hk.ks
  have hkl := keysB_len k.keys
  simp only [List.length_map] at hkl
  refine sx ?_
  refine s_boxA rfl fun b1 => ?_
  refine sx ?_
  refine s_rw (t := 11) rfl (ci (by omega : _ = ((k.ps.length + 3 : Nat) : Int))) ?_
  refine s_make rfl rfl (by omega) fun pa => ?_
  refine sx ?_
  refine s_boxA rfl fun b2 => ?_
  refine sx ?_
  refine sx ?_; refine s_drH (.hb b2 45 [.slice none 0 0, .slice none 0 0, .slice (some pa) (k.ps.length + 3) (k.ps.length + 3), .slice none 0 0, .slice none 0 0] :: .hb b1 31 k.cells :: H) (.one true 0 (.one true 1 (.one true 2 (.one true 3 (.one true 4 (.one true 5 (.one false 6 .nil))))))) mixed (by kernel_rfl) ?_; refine sx ?_
  refine s_copy rfl rfl ?_ (ys := k.ps) (hk0 := by simp)
  have e : k.ps.take (List.replicate (k.ps.length + 3) (0 : Int)).length ++ (List.replicate (k.ps.length + 3) (0 : Int)).drop k.ps.length = k.ps ++ [0, 0, 0] := by
    rw [List.take_of_length_le (by simp), List.drop_replicate, show k.ps.length + 3 - k.ps.length = 3 by omega]
    rfl
  rw [e]
  clear e
  refine sx ?_
  refine s_loop (fun j : Nat => [(1, .pointer (some ⟨b1, 0, none⟩)), (3, .pointer (some ⟨b2, 0, none⟩)), (4, .int .i64 ((k.ps.length + j : Nat) : Int))]) (fun j => .hb b2 45 [.slice none 0 0, .slice none 0 0, .slice (some pa) (k.ps.length + 3) (k.ps.length + 3), .slice none 0 0, .slice none 0 0] :: ol 3 (some pa) (k.ps.length + 3) (k.ps ++ lnP j) :: .hb b1 31 k.cells :: H) (fun j => j ≤ 3) (fun j => 3 - j) 0 (Nat.zero_le _) ?_
  intro j hj
  have hjl := lnG_len (x := (-9 : Int)) (z := 0) hj
  refine sx ?_
  refine s_if rfl (fun t1 => ?_) (fun t1 => ?_)
  · refine sx ?_
    refine s_set1 (y := (-9 : Int)) (i := k.ps.length + j) rfl rfl (by exact at_) rfl (by rw [List.length_append, hjl]; omega) ?_
    refine sx ?_
    refine s_again (j + 1) (by omega) (by omega) (he := ?_)
    rw [lnG_set (by omega)]
    exact ent
  obtain rfl : j = 3 := by omega
  clear hj hjl t1
  refine sx ?_
  refine s_loop (fun i : BlI => [(1, .pointer (some ⟨b1, 0, none⟩)), (3, .pointer (some ⟨b2, 0, none⟩)), (5, .int .i64 i.fs.length)]) (fun i => .hb b2 45 [.slice none 0 0, .slice none 0 0, .slice (some pa) (k.ps.length + 3) (k.ps.length + 3), .slice i.ka i.fs.length i.kc, .slice i.la i.fs.length i.lc] :: ol 3 (some pa) (k.ps.length + 3) (k.ps ++ [-9, -9, -9]) :: ol 23 i.ka i.kc (i.fs.map kM3) :: ol 23 i.la i.lc i.fs :: fam 5 (i.fs.map kM3) :: .hb b1 31 k.cells :: H)
    (fun i => i.fs.length ≤ k.ks.length ∧ i.fs.map SB.xs = k.keys.take i.fs.length) (fun i => k.ks.length - i.fs.length) ⟨none, 0, none, 0, []⟩ ⟨Nat.zero_le _, rfl⟩ ?_ (he := by
      refine Ent.cons (by exact rm) ?_
      refine Ent.cons (by exact rm) ?_
      exact Ent.nilS.trans (Ent.head (Ent.nilS.trans (Ent.head (fam_nil.trans (Ent.head ent))))))
  rintro ⟨ka, kc, la, lc, fs⟩ ⟨h1, h2⟩
  simp only at h1 h2 ⊢
  have hfl : (fs.map kM3).length = fs.length := List.length_map ..
  refine sx ?_
  refine s_if rfl (fun t1 => ?_) (fun t1 => ?_)
  · obtain ⟨p, hp⟩ := get_lt k.ks fs.length (by omega)
    have hkp := Kd.kget hp
    have hpl := hk.el _ (List.mem_of_getElem? hp)
    have hpk := hkl.2 _ (List.mem_of_getElem? hkp)
    refine sx ?_
    refine s_rw (t := 53) rfl (ci (by omega : _ = ((p.xs.length + 3 : Nat) : Int))) ?_
    refine s_make rfl rfl (by omega) fun ca => ?_
    refine sx ?_
    refine s_copy rfl rfl ?_ (ys := p.xs) (hk0 := by simp)
    have e : p.xs.take (List.replicate (p.xs.length + 3) (0 : UInt8)).length ++ (List.replicate (p.xs.length + 3) (0 : UInt8)).drop p.xs.length = p.xs ++ [0, 0, 0] := by
      rw [List.take_of_length_le (by simp), List.drop_replicate, show p.xs.length + 3 - p.xs.length = 3 by omega]
      rfl
    rw [e]
    clear e
    refine sx ?_
    refine s_loop (fun j : Nat => [(1, .pointer (some ⟨b1, 0, none⟩)), (3, .pointer (some ⟨b2, 0, none⟩)), (5, .int .i64 fs.length), (6, .slice (some ca) (p.xs.length + 3) (p.xs.length + 3)), (7, .int .i64 ((p.xs.length + j : Nat) : Int))]) (fun j => ob (some ca) (p.xs.length + 3) (p.xs ++ lnB j) :: .hb b2 45 [.slice none 0 0, .slice none 0 0, .slice (some pa) (k.ps.length + 3) (k.ps.length + 3), .slice ka fs.length kc, .slice la fs.length lc] :: ol 3 (some pa) (k.ps.length + 3) (k.ps ++ [-9, -9, -9]) :: ol 23 ka kc (fs.map kM3) :: ol 23 la lc fs :: fam 5 (fs.map kM3) :: .hb b1 31 k.cells :: H) (fun j => j ≤ 3) (fun j => 3 - j) 0 (Nat.zero_le _) ?_
    intro j hj
    have hjl := lnG_len (x := (167 : UInt8)) (z := 0) hj
    refine sx ?_
    refine s_if rfl (fun t2 => ?_) (fun t2 => ?_)
    · refine sx ?_
      refine s_set1 (y := (167 : UInt8)) (i := p.xs.length + j) rfl rfl (by exact at_) rfl (by rw [List.length_append, hjl]; omega) ?_
      refine sx ?_
      refine s_again (j + 1) (by omega) (by omega) (he := ?_)
      rw [lnG_set (by omega)]
      exact ent
    obtain rfl : j = 3 := by omega
    clear hj hjl t2
    refine sx ?_
    refine s_rw (t := 82) (v' := (kM3 ⟨some ca, p.xs.length + 3, p.xs⟩).val) rfl (by simp [kM3, mk3, SB.val]) ?_
    refine s_bsl [kM3 ⟨some ca, p.xs.length + 3, p.xs⟩] rfl rfl fun b3 => ?_
    refine s_app ?_
    intro ka' kc'
    refine s_rw (t := 84) (v' := .slice ka' (fs ++ [(⟨some ca, p.xs.length + 3, p.xs⟩ : SB)]).length kc') rfl (by simp) ?_
    refine sx ?_
    refine sx ?_; refine s_drH (.hb b1 31 k.cells :: H) (.one true 0 (.one true 1 (.one true 2 (.one true 3 (.one true 5 (.one true 6 (.one true 7 (.one true 8 (.one true 9 (.one true 10 (.one true 11 (.one true 12 (.alt (.one false 4 (.one false 13 (.one false 14 (.one true 15 (.one true 16 (.one false 17 .nil)))))) (.one false 13 (.one false 4 (.one false 14 (.one true 15 (.one true 16 (.one false 17 .nil))))))))))))))))))) mixed (by kernel_rfl) ?_; refine sx ?_
    refine s_alt ?_ ?_
    · refine s_yA rfl rfl (by exact yy) ?_ (chk_held (by exact ent))
      refine s_bsl [(⟨some ca, p.xs.length + 3, p.xs⟩ : SB)] rfl rfl fun b4 => ?_
      refine s_app ?_
      intro la' lc'
      refine sx ?_
      refine s_rwQ (t := 5) rfl (ci (by rw [List.length_append]; rfl : _ = (((fs ++ [(⟨some ca, p.xs.length + 3, p.xs⟩ : SB)]).length : Nat) : Int))) ?_
      refine s_again ⟨ka', kc', la', lc', fs ++ [⟨some ca, p.xs.length + 3, p.xs⟩]⟩ ⟨by simp only [List.length_append, List.length_singleton]; omega, by rw [List.map_append, h2, List.length_append, List.length_singleton, snocT hkp]; rfl⟩ (by simp only [List.length_append, List.length_singleton]; omega) (he := ?_)
      simp only [List.map_append]
      refine Ent.cons (by exact rm) ?_
      refine Ent.cons (by exact rm) ?_
      refine Ent.cons (by exact rm) ?_
      refine Ent.cons (by exact rm) ?_
      refine Ent.famS (by exact rm) (by exact rm) ?_
      exact ent
    · refine s_bsl [(⟨some ca, p.xs.length + 3, p.xs⟩ : SB)] rfl rfl fun b4 => ?_
      refine s_yA rfl rfl (by exact yy) ?_ (chk_held (by exact ent))
      refine s_app ?_
      intro la' lc'
      refine sx ?_
      refine s_rwQ (t := 5) rfl (ci (by rw [List.length_append]; rfl : _ = (((fs ++ [(⟨some ca, p.xs.length + 3, p.xs⟩ : SB)]).length : Nat) : Int))) ?_
      refine s_again ⟨ka', kc', la', lc', fs ++ [⟨some ca, p.xs.length + 3, p.xs⟩]⟩ ⟨by simp only [List.length_append, List.length_singleton]; omega, by rw [List.map_append, h2, List.length_append, List.length_singleton, snocT hkp]; rfl⟩ (by simp only [List.length_append, List.length_singleton]; omega) (he := ?_)
      simp only [List.map_append]
      refine Ent.cons (by exact rm) ?_
      refine Ent.cons (by exact rm) ?_
      refine Ent.cons (by exact rm) ?_
      refine Ent.cons (by exact rm) ?_
      refine Ent.famS (by exact rm) (by exact rm) ?_
      exact ent
  · have e : fs.length = k.ks.length := by omega
    refine sx ?_
    refine s_bsl mkB rfl rfl fun c1 => ?_
    refine s_convb rfl (by exact at_) ?_
    refine s_bsl mkB rfl rfl fun c2 => ?_
    refine s_convb rfl (by exact at_) ?_
    refine s_bsl [bMk c1, bMk c2] rfl rfl fun c3 => ?_
    refine s_app ?_
    intro la' lc'
    refine s_rw (t := 114) (v' := .slice la' (fs.length + 2) lc') rfl (by simp) ?_
    refine sx ?_
    refine s_kn (Kn.sl (xs := fs ++ [bMk c1, bMk c2]) (a := la') (c := lc') (by exact rsl)) fun m1 => ?_
    have m2 : (fs ++ [bMk c1, bMk c2]).length = fs.length + 2 := by simp
    refine sx ?_; refine s_drH (.hb b1 31 k.cells :: H) (.one true 0 (.one true 1 (.one true 2 (.one true 3 (.one true 5 (.one true 6 (.one true 7 (.one true 9 (.one true 10 (.one true 11 (.one true 13 (.one true 14 (.one true 15 (.alt (.one false 4 (.one true 8 (.one false 12 (.one true 16 (.one true 17 (.one true 18 (.one true 19 (.one false 20 .nil)))))))) (.one false 12 (.one true 16 (.one false 4 (.one true 8 (.one true 17 (.one true 18 (.one true 19 (.one false 20 .nil)))))))))))))))))))))) mixed (by kernel_rfl) ?_; refine sx ?_
    refine s_rw (t := 132) rfl (ci (by omega : _ = ((fs.length : Nat) : Int))) ?_
    refine s_alt ?_ ?_
    · refine s_yA rfl rfl (by exact yy) ?_ (chk_held (by exact ent))
      refine sx ?_
      refine s_yA rfl rfl (by exact yy) ?_ (chk_held (by exact ent))
      refine sx ?_
      refine s_ret1 rfl rfl ⟨⟨b2, some pa, k.ps.length + 3, k.ps, ka, kc, la', lc', fs, c1, c2⟩, rfl, ?_, rfl⟩ (by
        refine Ent.cons (by exact rm) ?_
        refine Ent.star ?_
        exact ent)
      simp only [Bl.k, Kd.d, Kd.keys, h2, e]
      rw [List.take_of_length_le (by simp)]
    · refine s_yA rfl rfl (by exact yy) ?_ (chk_held (by exact ent))
      refine sx ?_
      refine s_yA rfl rfl (by exact yy) ?_ (chk_held (by exact ent))
      refine sx ?_
      refine s_ret1 rfl rfl ⟨⟨b2, some pa, k.ps.length + 3, k.ps, ka, kc, la', lc', fs, c1, c2⟩, rfl, ?_, rfl⟩ (by
        refine Ent.cons (by exact rm) ?_
        refine Ent.star ?_
        exact ent)
      simp only [Bl.k, Kd.d, Kd.keys, h2, e]
      rw [List.take_of_length_le (by simp)]
end Go.Sx
