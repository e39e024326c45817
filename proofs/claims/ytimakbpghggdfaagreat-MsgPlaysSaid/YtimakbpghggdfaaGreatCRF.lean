/- Part of a proof: a step of the script. (Printed by genRF.py.) -/
import Derived.Test.YtimakbpghggdfaaGreatCRE
import Derived.Test.YtimakbpghggdfaaGreatCPB
namespace Go.Sx
open Go Go.Proofs
set_option maxRecDepth 10000
variable {w0 : World} {H : List Ck}
theorem lE_rsl {a : Option Addr} {c mb : Nat} {fs : List KV} : RSl w0 (.star (lEs a c fs mb) :: H) a c fs := by
  have := (RSl.hd (w0 := w0) (E := 31) (a := a) (c := c) (xs := fs ++ [bhE mb]) (H := stars lE fs :: .ro mb (flat bhB) :: H)).take (k := fs.length) (by simp)
  rw [List.take_left' rfl] at this
  exact this.ent (Ent.open Ent.refl)
theorem lE_reeS {a : Option Addr} {c mb : Nat} {fs : List KV} {e : KV} (he : e ∈ fs) : REe w0 (.star (lEs a c fs mb) :: H) e := (lE_st he).tl.ent (H' := ol 31 a c (fs ++ [bhE mb]) :: stars lE fs :: .ro mb (flat bhB) :: H) (Ent.open Ent.refl)
theorem lM_rms {a : Option Addr} {c : Nat} {fs : List Mg} : RMs w0 (.star (lMs a c fs) :: H) a c fs := by
  refine RMs.ent (H' := ol 35 a c (fs ++ [mg77]) :: stars lM fs :: H) ⟨?_, fun m hm => (lM_st hm).tl⟩ (Ent.open Ent.refl)
  have := (RSl.hd (w0 := w0) (E := 35) (a := a) (c := c) (xs := fs ++ [mg77]) (H := stars lM fs :: H)).take (k := fs.length) (by simp)
  rwa [List.take_left' rfl] at this
@[reducible] def lnL (mb : Nat) (x : MOp) : List Ck := [.star (lEs x.la x.lc x.ls mb), .star (lMs x.ma x.mc x.ms), ob x.ka x.kc (lm x.key), ob x.r.la x.r.lc (lm x.r.lo), ob x.r.ha x.r.hc (lm x.r.hi)]
/-- What is lent. -/
@[reducible] def lnG (mb : Nat) (x : MOp) : Ck := .star (lnL mb x)
theorem lnG_rm {mb : Nat} {x : MOp} : RMop w0 (lnG mb x :: H) x := RMop.ent (H' := lnL mb x ++ H) ⟨lE_rsl, fun _ he => lE_reeS he, lM_rms.tl, lm_by.tl.tl, ⟨lm_by.tl.tl.tl, lm_by.tl.tl.tl.tl⟩⟩ (Ent.open Ent.refl)
/-- A call, written over. -/
def fO (x : MOp) : MOp := ⟨x.k, x.sz, x.la, x.lc, x.ls.map fE, x.ma, x.mc, x.ms.map fM, x.ka, x.kc, x.key.map fx, ⟨x.r.la, x.r.lc, x.r.lo.map fx, x.r.ha, x.r.hc, x.r.hi.map fx, x.r.all⟩⟩
theorem fO_cells (x : MOp) : (fO x).cells = x.cells := by simp [fO, MOp.cells]
theorem sumE_fE (l : List KV) : sumE (l.map fE) = sumE l := by simp [sumE, fE, Function.comp_def]
theorem sumM_fD (l : List MD) : sumM (l.map fD) = sumM l := by
  unfold sumM
  rw [List.map_map]
  exact congrArg List.sum (List.map_congr_left fun m _ => by simp [lenM, fD])
theorem fO_sz (x : MOp) : szO (fO x) = szO x := by
  have h : ((x.ms.map fM).map Mg.d) = (x.ms.map Mg.d).map fD := fM_md rfl
  simp only [szO, fO, sumE_fE, h, sumM_fD, List.length_map]
/-- It is lent as it is. -/
structure LnO (o x : MOp) : Prop where
  l : x.ls.map KV.p = o.ls.map KV.p
  m : x.ms.map Mg.d = o.ms.map Mg.d
  k : x.key = o.key
  lo : x.r.lo = o.r.lo
  hi : x.r.hi = o.r.hi
  all : x.r.all = o.r.all
theorem LnO.same {o x : MOp} (h : LnO o x) : SameO x o := ⟨h.l, h.m, h.k, by simp only [Rg.d, h.lo, h.hi, h.all]⟩
theorem s_joinLn {P : Option Addr → Nat → List KV → Nat → Option Addr → Nat → List Mg → Option Addr → Nat → Option Addr → Nat → Option Addr → Nat → Nat → Prop} {G : Prop} (F : List KV → Prop) (F2 : List Mg → Prop)
    (main : KeyU (∀ a1 c1 fs mb a2 c2 ms a3 c3 a4 c4 a5 c5 b, F fs → F2 ms → P a1 c1 fs mb a2 c2 ms a3 c3 a4 c4 a5 c5 b) → G) (key : ∀ a1 c1 fs mb a2 c2 ms a3 c3 a4 c4 a5 c5 b, F fs → F2 ms → P a1 c1 fs mb a2 c2 ms a3 c3 a4 c4 a5 c5 b) : G := main ⟨key⟩
set_option maxHeartbeats 16000000 in
theorem step_s {B : Ob} {L : LsT} {n : Int} {cnt rows : Nat} (h : LsOk B L n cnt rows) {o : MOp} (ho : RMop w0 H o) (hz : szO o ≤ 2147483647) (hc : cnt ≤ 2980000000000) (hrw : rows ≤ 2932031007390) (hn : 0 ≤ n ∧ n ≤ 2147483647) :
    FnS Tryz.prog w0 (B.ck :: .star L.X :: H) 26 #[.pointer (some ⟨B.k, 0, none⟩), .agg o.cells.toArray] (fun v H' => ∃ B' L' n' cnt', v = .bool true ∧ B'.k = B.k ∧ LsOk B' L' n' cnt' (rows + 3) ∧ n ≤ n' ∧ n' ≤ n + 6755399441055744 ∧ cnt' ≤ cnt + 3 + 3 * szO o ∧ H' = B'.ck :: .star L'.X :: H) := by
  have zo := zmop hz
  have q1 := zo.nl
  have q2 := zo.nm
  have q3 := zo.s
  refine fns_enter Tryz.func26 rfl rfl rfl ?_
  refine sx ?_
  refine s_boxA rfl fun b3 => ?_
  have ro : RMop w0 (.hb b3 71 o.cells :: B.ck :: .star L.X :: H) o := ho.ent (Ent.dropL [_, _, _])
  refine sx ?_
  apply s_joinLn (fun fs => fs.map KV.p = o.ls.map KV.p) (fun ms => ms.map Mg.d = o.ms.map Mg.d)
  · intro kk
    refine s_drH [.hb b3 71 o.cells] (.one true 0 (.one true 1 (.one true 2 (.one true 3 (.one true 4 (.one true 5 (.one true 7 (.one true 8 (.one true 10 (.one true 11 (.one true 13 (.one true 14 (.one true 15 (.one true 17 (.one true 18 (.one true 19 (.one true 21 (.one true 22 (.one true 23 (.alt (.one false 6 (.alt (.one false 9 (.alt (.one false 12 (.alt (.one false 16 (.alt (.one false 20 (.one true 24 (.one true 25 (.one false 26 (.one false 27 .nil))))) (.one false 26 (.one false 20 (.one true 24 (.one true 25 (.one false 27 .nil))))))) (.one false 26 (.one false 16 (.one false 20 (.one true 24 (.one true 25 (.one false 27 .nil)))))))) (.one false 26 (.one false 12 (.one false 16 (.one false 20 (.one true 24 (.one true 25 (.one false 27 .nil))))))))) (.one false 26 (.one false 9 (.one false 12 (.one false 16 (.one false 20 (.one true 24 (.one true 25 (.one false 27 .nil)))))))))) (.one false 26 (.one false 6 (.one false 9 (.one false 12 (.one false 16 (.one false 20 (.one true 24 (.one true 25 (.one false 27 .nil))))))))))))))))))))))))))))) mixed (by kernel_rfl) ?_ (he := by exact ent)
    refine sx ?_
    refine s_rw (t := 29) (v' := .pointer (some ((⟨b3, 0, none⟩ : Addr).add 5))) rfl rfl ?_
    refine sx ?_
    refine s_rw (t := 33) (v' := .pointer (some ((⟨b3, 0, none⟩ : Addr).add 6))) rfl rfl ?_
    refine sx ?_
    refine s_rw (t := 37) (v' := .pointer (some ((⟨b3, 0, none⟩ : Addr).add 7))) rfl rfl ?_
    refine sx ?_
    refine s_alt ?_ ?_
    · skip
      refine sx ?_
      refine s_call rfl (lentE_s (es := o.ls) (ro.l.ent (Ent.dropL [])) (fun e he => (ro.le e he).ent (Ent.dropL [])) (by omega) (fun e he => by have := zo.l e he; omega)) ?_
      rintro _ _ ⟨a1, c1, fs, mb, rfl, hfs, rfl⟩
      refine ⟨chk_held (by exact ent), ?_⟩
      refine sx ?_
      refine s_alt ?_ ?_
      · skip
        refine sx ?_
        refine s_call rfl (lentM_s (ms := o.ms) (ro.m.ent (Ent.dropL [_])) (by omega) (fun m hm => by have := zo.m m hm; show m.lo.length ≤ _ ∧ m.hi.length ≤ _ ∧ m.v.length ≤ _; omega)) ?_
        rintro _ _ ⟨a2, c2, fm, rfl, hfm, rfl⟩
        refine ⟨chk_held (by exact ent), ?_⟩
        refine sx ?_
        refine s_alt ?_ ?_
        · skip
          refine sx ?_
          refine s_call rfl (lent_s (ro.k.ent (Ent.dropL [_, _])) (by have := zo.k; omega)) ?_
          rintro _ _ ⟨a3, c3, rfl, rfl⟩
          refine ⟨chk_held (by exact ent), ?_⟩
          refine sx ?_
          refine s_alt ?_ ?_
          · skip
            refine sx ?_
            refine s_call rfl (lent_s (ro.r.lo.ent (Ent.dropL [_, _, _])) (by have := zo.r; omega)) ?_
            rintro _ _ ⟨a4, c4, rfl, rfl⟩
            refine ⟨chk_held (by exact ent), ?_⟩
            refine sx ?_
            refine s_alt ?_ ?_
            · skip
              refine sx ?_
              refine s_call rfl (lent_s (ro.r.hi.ent (Ent.dropL [_, _, _, _])) (by have := zo.r; omega)) ?_
              rintro _ _ ⟨a5, c5, rfl, rfl⟩
              refine ⟨chk_held (by exact ent), ?_⟩
              refine sx ?_
              refine s_alloc fun b5 => ?_
              refine sx ?_
              refine s_ent (.hb b5 71 (⟨o.k, o.sz, a1, c1, fs, a2, c2, fm, a3, c3, o.key, ⟨a4, c4, o.r.lo, a5, c5, o.r.hi, o.r.all⟩⟩ : MOp).cells :: lnG mb (⟨o.k, o.sz, a1, c1, fs, a2, c2, fm, a3, c3, o.key, ⟨a4, c4, o.r.lo, a5, c5, o.r.hi, o.r.all⟩⟩ : MOp) :: .hb b3 71 o.cells :: B.ck :: .star L.X :: H) ?_ ?_
              · refine Ent.cons (by exact rm) ?_
                refine Ent.star (L := [_, _, _, _, _]) ?_
                exact Ent.cons (by exact rm) (Ent.cons (by exact rm) (Ent.cons (by exact rm) (Ent.cons (by exact rm) (Ent.cons (by exact rm) Ent.refl))))
              refine s_sub (l' := [(0, .pointer (some ⟨B.k, 0, none⟩)), (3, .pointer (some ⟨b3, 0, none⟩)), (5, .pointer (some ⟨b5, 0, none⟩))]) ?_ (by repeat (first | exact trivial | refine And.intro (by first | exact rfl | exact congrArg some (ci (by omega))) ?_))
              exact kk.out a1 c1 fs mb a2 c2 fm a3 c3 a4 c4 a5 c5 b5 hfs hfm
            · skip
              refine sx ?_
              refine s_alloc fun b5 => ?_
              refine sx ?_
              refine s_call rfl (lent_s (ro.r.hi.ent (Ent.dropL [_, _, _, _, _])) (by have := zo.r; omega)) ?_
              rintro _ _ ⟨a5, c5, rfl, rfl⟩
              refine ⟨chk_held (by exact ent), ?_⟩
              refine sx ?_
              refine s_ent (.hb b5 71 (⟨o.k, o.sz, a1, c1, fs, a2, c2, fm, a3, c3, o.key, ⟨a4, c4, o.r.lo, a5, c5, o.r.hi, o.r.all⟩⟩ : MOp).cells :: lnG mb (⟨o.k, o.sz, a1, c1, fs, a2, c2, fm, a3, c3, o.key, ⟨a4, c4, o.r.lo, a5, c5, o.r.hi, o.r.all⟩⟩ : MOp) :: .hb b3 71 o.cells :: B.ck :: .star L.X :: H) ?_ ?_
              · refine Ent.cons (by exact rm) ?_
                refine Ent.star (L := [_, _, _, _, _]) ?_
                exact Ent.cons (by exact rm) (Ent.cons (by exact rm) (Ent.cons (by exact rm) (Ent.cons (by exact rm) (Ent.cons (by exact rm) Ent.refl))))
              refine s_sub (l' := [(0, .pointer (some ⟨B.k, 0, none⟩)), (3, .pointer (some ⟨b3, 0, none⟩)), (5, .pointer (some ⟨b5, 0, none⟩))]) ?_ (by repeat (first | exact trivial | refine And.intro (by first | exact rfl | exact congrArg some (ci (by omega))) ?_))
              exact kk.out a1 c1 fs mb a2 c2 fm a3 c3 a4 c4 a5 c5 b5 hfs hfm
          · skip
            refine sx ?_
            refine s_alloc fun b5 => ?_
            refine sx ?_
            refine s_call rfl (lent_s (ro.r.lo.ent (Ent.dropL [_, _, _, _])) (by have := zo.r; omega)) ?_
            rintro _ _ ⟨a4, c4, rfl, rfl⟩
            refine ⟨chk_held (by exact ent), ?_⟩
            refine sx ?_
            refine s_call rfl (lent_s (ro.r.hi.ent (Ent.dropL [_, _, _, _, _])) (by have := zo.r; omega)) ?_
            rintro _ _ ⟨a5, c5, rfl, rfl⟩
            refine ⟨chk_held (by exact ent), ?_⟩
            refine sx ?_
            refine s_ent (.hb b5 71 (⟨o.k, o.sz, a1, c1, fs, a2, c2, fm, a3, c3, o.key, ⟨a4, c4, o.r.lo, a5, c5, o.r.hi, o.r.all⟩⟩ : MOp).cells :: lnG mb (⟨o.k, o.sz, a1, c1, fs, a2, c2, fm, a3, c3, o.key, ⟨a4, c4, o.r.lo, a5, c5, o.r.hi, o.r.all⟩⟩ : MOp) :: .hb b3 71 o.cells :: B.ck :: .star L.X :: H) ?_ ?_
            · refine Ent.cons (by exact rm) ?_
              refine Ent.star (L := [_, _, _, _, _]) ?_
              exact Ent.cons (by exact rm) (Ent.cons (by exact rm) (Ent.cons (by exact rm) (Ent.cons (by exact rm) (Ent.cons (by exact rm) Ent.refl))))
            refine s_sub (l' := [(0, .pointer (some ⟨B.k, 0, none⟩)), (3, .pointer (some ⟨b3, 0, none⟩)), (5, .pointer (some ⟨b5, 0, none⟩))]) ?_ (by repeat (first | exact trivial | refine And.intro (by first | exact rfl | exact congrArg some (ci (by omega))) ?_))
            exact kk.out a1 c1 fs mb a2 c2 fm a3 c3 a4 c4 a5 c5 b5 hfs hfm
        · skip
          refine sx ?_
          refine s_alloc fun b5 => ?_
          refine sx ?_
          refine s_call rfl (lent_s (ro.k.ent (Ent.dropL [_, _, _])) (by have := zo.k; omega)) ?_
          rintro _ _ ⟨a3, c3, rfl, rfl⟩
          refine ⟨chk_held (by exact ent), ?_⟩
          refine sx ?_
          refine s_call rfl (lent_s (ro.r.lo.ent (Ent.dropL [_, _, _, _])) (by have := zo.r; omega)) ?_
          rintro _ _ ⟨a4, c4, rfl, rfl⟩
          refine ⟨chk_held (by exact ent), ?_⟩
          refine sx ?_
          refine s_call rfl (lent_s (ro.r.hi.ent (Ent.dropL [_, _, _, _, _])) (by have := zo.r; omega)) ?_
          rintro _ _ ⟨a5, c5, rfl, rfl⟩
          refine ⟨chk_held (by exact ent), ?_⟩
          refine sx ?_
          refine s_ent (.hb b5 71 (⟨o.k, o.sz, a1, c1, fs, a2, c2, fm, a3, c3, o.key, ⟨a4, c4, o.r.lo, a5, c5, o.r.hi, o.r.all⟩⟩ : MOp).cells :: lnG mb (⟨o.k, o.sz, a1, c1, fs, a2, c2, fm, a3, c3, o.key, ⟨a4, c4, o.r.lo, a5, c5, o.r.hi, o.r.all⟩⟩ : MOp) :: .hb b3 71 o.cells :: B.ck :: .star L.X :: H) ?_ ?_
          · refine Ent.cons (by exact rm) ?_
            refine Ent.star (L := [_, _, _, _, _]) ?_
            exact Ent.cons (by exact rm) (Ent.cons (by exact rm) (Ent.cons (by exact rm) (Ent.cons (by exact rm) (Ent.cons (by exact rm) Ent.refl))))
          refine s_sub (l' := [(0, .pointer (some ⟨B.k, 0, none⟩)), (3, .pointer (some ⟨b3, 0, none⟩)), (5, .pointer (some ⟨b5, 0, none⟩))]) ?_ (by repeat (first | exact trivial | refine And.intro (by first | exact rfl | exact congrArg some (ci (by omega))) ?_))
          exact kk.out a1 c1 fs mb a2 c2 fm a3 c3 a4 c4 a5 c5 b5 hfs hfm
      · skip
        refine sx ?_
        refine s_alloc fun b5 => ?_
        refine sx ?_
        refine s_call rfl (lentM_s (ms := o.ms) (ro.m.ent (Ent.dropL [_, _])) (by omega) (fun m hm => by have := zo.m m hm; show m.lo.length ≤ _ ∧ m.hi.length ≤ _ ∧ m.v.length ≤ _; omega)) ?_
        rintro _ _ ⟨a2, c2, fm, rfl, hfm, rfl⟩
        refine ⟨chk_held (by exact ent), ?_⟩
        refine sx ?_
        refine s_call rfl (lent_s (ro.k.ent (Ent.dropL [_, _, _])) (by have := zo.k; omega)) ?_
        rintro _ _ ⟨a3, c3, rfl, rfl⟩
        refine ⟨chk_held (by exact ent), ?_⟩
        refine sx ?_
        refine s_call rfl (lent_s (ro.r.lo.ent (Ent.dropL [_, _, _, _])) (by have := zo.r; omega)) ?_
        rintro _ _ ⟨a4, c4, rfl, rfl⟩
        refine ⟨chk_held (by exact ent), ?_⟩
        refine sx ?_
        refine s_call rfl (lent_s (ro.r.hi.ent (Ent.dropL [_, _, _, _, _])) (by have := zo.r; omega)) ?_
        rintro _ _ ⟨a5, c5, rfl, rfl⟩
        refine ⟨chk_held (by exact ent), ?_⟩
        refine sx ?_
        refine s_ent (.hb b5 71 (⟨o.k, o.sz, a1, c1, fs, a2, c2, fm, a3, c3, o.key, ⟨a4, c4, o.r.lo, a5, c5, o.r.hi, o.r.all⟩⟩ : MOp).cells :: lnG mb (⟨o.k, o.sz, a1, c1, fs, a2, c2, fm, a3, c3, o.key, ⟨a4, c4, o.r.lo, a5, c5, o.r.hi, o.r.all⟩⟩ : MOp) :: .hb b3 71 o.cells :: B.ck :: .star L.X :: H) ?_ ?_
        · refine Ent.cons (by exact rm) ?_
          refine Ent.star (L := [_, _, _, _, _]) ?_
          exact Ent.cons (by exact rm) (Ent.cons (by exact rm) (Ent.cons (by exact rm) (Ent.cons (by exact rm) (Ent.cons (by exact rm) Ent.refl))))
        refine s_sub (l' := [(0, .pointer (some ⟨B.k, 0, none⟩)), (3, .pointer (some ⟨b3, 0, none⟩)), (5, .pointer (some ⟨b5, 0, none⟩))]) ?_ (by repeat (first | exact trivial | refine And.intro (by first | exact rfl | exact congrArg some (ci (by omega))) ?_))
        exact kk.out a1 c1 fs mb a2 c2 fm a3 c3 a4 c4 a5 c5 b5 hfs hfm
    · skip
      refine sx ?_
      refine s_alloc fun b5 => ?_
      refine sx ?_
      refine s_call rfl (lentE_s (es := o.ls) (ro.l.ent (Ent.dropL [_])) (fun e he => (ro.le e he).ent (Ent.dropL [_])) (by omega) (fun e he => by have := zo.l e he; omega)) ?_
      rintro _ _ ⟨a1, c1, fs, mb, rfl, hfs, rfl⟩
      refine ⟨chk_held (by exact ent), ?_⟩
      refine sx ?_
      refine s_call rfl (lentM_s (ms := o.ms) (ro.m.ent (Ent.dropL [_, _])) (by omega) (fun m hm => by have := zo.m m hm; show m.lo.length ≤ _ ∧ m.hi.length ≤ _ ∧ m.v.length ≤ _; omega)) ?_
      rintro _ _ ⟨a2, c2, fm, rfl, hfm, rfl⟩
      refine ⟨chk_held (by exact ent), ?_⟩
      refine sx ?_
      refine s_call rfl (lent_s (ro.k.ent (Ent.dropL [_, _, _])) (by have := zo.k; omega)) ?_
      rintro _ _ ⟨a3, c3, rfl, rfl⟩
      refine ⟨chk_held (by exact ent), ?_⟩
      refine sx ?_
      refine s_call rfl (lent_s (ro.r.lo.ent (Ent.dropL [_, _, _, _])) (by have := zo.r; omega)) ?_
      rintro _ _ ⟨a4, c4, rfl, rfl⟩
      refine ⟨chk_held (by exact ent), ?_⟩
      refine sx ?_
      refine s_call rfl (lent_s (ro.r.hi.ent (Ent.dropL [_, _, _, _, _])) (by have := zo.r; omega)) ?_
      rintro _ _ ⟨a5, c5, rfl, rfl⟩
      refine ⟨chk_held (by exact ent), ?_⟩
      refine sx ?_
      refine s_ent (.hb b5 71 (⟨o.k, o.sz, a1, c1, fs, a2, c2, fm, a3, c3, o.key, ⟨a4, c4, o.r.lo, a5, c5, o.r.hi, o.r.all⟩⟩ : MOp).cells :: lnG mb (⟨o.k, o.sz, a1, c1, fs, a2, c2, fm, a3, c3, o.key, ⟨a4, c4, o.r.lo, a5, c5, o.r.hi, o.r.all⟩⟩ : MOp) :: .hb b3 71 o.cells :: B.ck :: .star L.X :: H) ?_ ?_
      · refine Ent.cons (by exact rm) ?_
        refine Ent.star (L := [_, _, _, _, _]) ?_
        exact Ent.cons (by exact rm) (Ent.cons (by exact rm) (Ent.cons (by exact rm) (Ent.cons (by exact rm) (Ent.cons (by exact rm) Ent.refl))))
      refine s_sub (l' := [(0, .pointer (some ⟨B.k, 0, none⟩)), (3, .pointer (some ⟨b3, 0, none⟩)), (5, .pointer (some ⟨b5, 0, none⟩))]) ?_ (by repeat (first | exact trivial | refine And.intro (by first | exact rfl | exact congrArg some (ci (by omega))) ?_))
      exact kk.out a1 c1 fs mb a2 c2 fm a3 c3 a4 c4 a5 c5 b5 hfs hfm
  intro a1 c1 fs mbx a2 c2 fm a3 c3 a4 c4 a5 c5 b5 hfs hfm
  obtain ⟨x, hx⟩ : ∃ x, x = (⟨o.k, o.sz, a1, c1, fs, a2, c2, fm, a3, c3, o.key, ⟨a4, c4, o.r.lo, a5, c5, o.r.hi, o.r.all⟩⟩ : MOp) := ⟨_, rfl⟩
  rw [← hx]
  have hln : LnO o x := by rw [hx]; exact ⟨hfs, hfm, rfl, rfl, rfl, rfl⟩
  clear hfs hfm
  clear hx
  apply s_joinLn (fun fs => fs.map KV.p = (o.ls.map KV.p).map fP) (fun ms => ms.map Mg.d = (o.ms.map Mg.d).map fD)
  · intro kk
    refine s_drH [.hb b3 71 o.cells] (.one true 0 (.one true 1 (.one true 2 (.one true 3 (.one true 4 (.one true 5 (.one true 7 (.one true 8 (.one true 10 (.one true 11 (.one true 13 (.one true 14 (.one true 15 (.one true 17 (.one true 18 (.one true 19 (.one true 21 (.one true 22 (.one true 23 (.alt (.one false 6 (.alt (.one false 9 (.alt (.one false 12 (.alt (.one false 16 (.alt (.one false 20 (.one true 24 (.one true 25 (.one false 26 (.one false 27 .nil))))) (.one false 26 (.one false 20 (.one true 24 (.one true 25 (.one false 27 .nil))))))) (.one false 26 (.one false 16 (.one false 20 (.one true 24 (.one true 25 (.one false 27 .nil)))))))) (.one false 26 (.one false 12 (.one false 16 (.one false 20 (.one true 24 (.one true 25 (.one false 27 .nil))))))))) (.one false 26 (.one false 9 (.one false 12 (.one false 16 (.one false 20 (.one true 24 (.one true 25 (.one false 27 .nil)))))))))) (.one false 26 (.one false 6 (.one false 9 (.one false 12 (.one false 16 (.one false 20 (.one true 24 (.one true 25 (.one false 27 .nil))))))))))))))))))))))))))))) mixed (by kernel_rfl) ?_ (he := by exact ent)
    refine sx ?_
    refine s_rw (t := 55) (v' := .pointer (some ((⟨b3, 0, none⟩ : Addr).add 5))) rfl rfl ?_
    refine sx ?_
    refine s_rw (t := 59) (v' := .pointer (some ((⟨b3, 0, none⟩ : Addr).add 6))) rfl rfl ?_
    refine sx ?_
    refine s_rw (t := 63) (v' := .pointer (some ((⟨b3, 0, none⟩ : Addr).add 7))) rfl rfl ?_
    refine sx ?_
    have stp : StopAt 3 := trivial
    refine s_alt ?_ ?_
    · skip
      refine sxs ?_
      refine s_call rfl (turnedE_s (es := o.ls) (ro.l.ent (Ent.dropL [_, _])) (fun e he => (ro.le e he).ent (Ent.dropL [_, _])) (by omega) (fun e he => by have := zo.l e he; omega)) ?_
      rintro _ _ ⟨a1, c1, fs, mb, rfl, hfs, rfl⟩
      refine ⟨chk_held (by exact ent), ?_⟩
      refine sxs ?_
      refine s_alt ?_ ?_
      · skip
        refine sxs ?_
        refine s_call rfl (turnedM_s (ms := o.ms) (ro.m.ent (Ent.dropL [_, _, _])) (by omega) (fun m hm => by have := zo.m m hm; show m.lo.length ≤ _ ∧ m.hi.length ≤ _ ∧ m.v.length ≤ _; omega)) ?_
        rintro _ _ ⟨a2, c2, fm, rfl, hfm, rfl⟩
        refine ⟨chk_held (by exact ent), ?_⟩
        refine sxs ?_
        refine s_alt ?_ ?_
        · skip
          refine sxs ?_
          refine s_call rfl (turned_s (ro.k.ent (Ent.dropL [_, _, _, _])) (by have := zo.k; omega)) ?_
          rintro _ _ ⟨a3, c3, rfl, rfl⟩
          refine ⟨chk_held (by exact ent), ?_⟩
          refine sxs ?_
          refine s_alt ?_ ?_
          · skip
            refine sxs ?_
            refine s_call rfl (turned_s (ro.r.lo.ent (Ent.dropL [_, _, _, _, _])) (by have := zo.r; omega)) ?_
            rintro _ _ ⟨a4, c4, rfl, rfl⟩
            refine ⟨chk_held (by exact ent), ?_⟩
            refine sxs ?_
            refine s_alt ?_ ?_
            · skip
              refine sxs ?_
              refine s_call rfl (turned_s (ro.r.hi.ent (Ent.dropL [_, _, _, _, _, _])) (by have := zo.r; omega)) ?_
              rintro _ _ ⟨a5, c5, rfl, rfl⟩
              refine ⟨chk_held (by exact ent), ?_⟩
              refine sxs ?_
              refine s_alloc fun b6 => ?_
              refine sxs ?_
              refine s_ent (.hb b6 71 (⟨o.k, o.sz, a1, c1, fs, a2, c2, fm, a3, c3, o.key.map fx, ⟨a4, c4, o.r.lo.map fx, a5, c5, o.r.hi.map fx, o.r.all⟩⟩ : MOp).cells :: lnG mb (⟨o.k, o.sz, a1, c1, fs, a2, c2, fm, a3, c3, o.key.map fx, ⟨a4, c4, o.r.lo.map fx, a5, c5, o.r.hi.map fx, o.r.all⟩⟩ : MOp) :: .hb b5 71 x.cells :: lnG mbx x :: .hb b3 71 o.cells :: B.ck :: .star L.X :: H) ?_ ?_
              · refine Ent.cons (by exact rm) ?_
                refine Ent.star (L := [_, _, _, _, _]) ?_
                exact Ent.cons (by exact rm) (Ent.cons (by exact rm) (Ent.cons (by exact rm) (Ent.cons (by exact rm) (Ent.cons (by exact rm) Ent.refl))))
              refine s_sub (l' := [(0, .pointer (some ⟨B.k, 0, none⟩)), (3, .pointer (some ⟨b3, 0, none⟩)), (5, .pointer (some ⟨b5, 0, none⟩)), (6, .pointer (some ⟨b6, 0, none⟩))]) ?_ (by repeat (first | exact trivial | refine And.intro (by first | exact rfl | exact congrArg some (ci (by omega))) ?_))
              exact kk.out a1 c1 fs mb a2 c2 fm a3 c3 a4 c4 a5 c5 b6 hfs hfm
            · skip
              refine sxs ?_
              refine s_alloc fun b6 => ?_
              refine sxs ?_
              refine s_call rfl (turned_s (ro.r.hi.ent (Ent.dropL [_, _, _, _, _, _, _])) (by have := zo.r; omega)) ?_
              rintro _ _ ⟨a5, c5, rfl, rfl⟩
              refine ⟨chk_held (by exact ent), ?_⟩
              refine sxs ?_
              refine s_ent (.hb b6 71 (⟨o.k, o.sz, a1, c1, fs, a2, c2, fm, a3, c3, o.key.map fx, ⟨a4, c4, o.r.lo.map fx, a5, c5, o.r.hi.map fx, o.r.all⟩⟩ : MOp).cells :: lnG mb (⟨o.k, o.sz, a1, c1, fs, a2, c2, fm, a3, c3, o.key.map fx, ⟨a4, c4, o.r.lo.map fx, a5, c5, o.r.hi.map fx, o.r.all⟩⟩ : MOp) :: .hb b5 71 x.cells :: lnG mbx x :: .hb b3 71 o.cells :: B.ck :: .star L.X :: H) ?_ ?_
              · refine Ent.cons (by exact rm) ?_
                refine Ent.star (L := [_, _, _, _, _]) ?_
                exact Ent.cons (by exact rm) (Ent.cons (by exact rm) (Ent.cons (by exact rm) (Ent.cons (by exact rm) (Ent.cons (by exact rm) Ent.refl))))
              refine s_sub (l' := [(0, .pointer (some ⟨B.k, 0, none⟩)), (3, .pointer (some ⟨b3, 0, none⟩)), (5, .pointer (some ⟨b5, 0, none⟩)), (6, .pointer (some ⟨b6, 0, none⟩))]) ?_ (by repeat (first | exact trivial | refine And.intro (by first | exact rfl | exact congrArg some (ci (by omega))) ?_))
              exact kk.out a1 c1 fs mb a2 c2 fm a3 c3 a4 c4 a5 c5 b6 hfs hfm
          · skip
            refine sxs ?_
            refine s_alloc fun b6 => ?_
            refine sxs ?_
            refine s_call rfl (turned_s (ro.r.lo.ent (Ent.dropL [_, _, _, _, _, _])) (by have := zo.r; omega)) ?_
            rintro _ _ ⟨a4, c4, rfl, rfl⟩
            refine ⟨chk_held (by exact ent), ?_⟩
            refine sxs ?_
            refine s_call rfl (turned_s (ro.r.hi.ent (Ent.dropL [_, _, _, _, _, _, _])) (by have := zo.r; omega)) ?_
            rintro _ _ ⟨a5, c5, rfl, rfl⟩
            refine ⟨chk_held (by exact ent), ?_⟩
            refine sxs ?_
            refine s_ent (.hb b6 71 (⟨o.k, o.sz, a1, c1, fs, a2, c2, fm, a3, c3, o.key.map fx, ⟨a4, c4, o.r.lo.map fx, a5, c5, o.r.hi.map fx, o.r.all⟩⟩ : MOp).cells :: lnG mb (⟨o.k, o.sz, a1, c1, fs, a2, c2, fm, a3, c3, o.key.map fx, ⟨a4, c4, o.r.lo.map fx, a5, c5, o.r.hi.map fx, o.r.all⟩⟩ : MOp) :: .hb b5 71 x.cells :: lnG mbx x :: .hb b3 71 o.cells :: B.ck :: .star L.X :: H) ?_ ?_
            · refine Ent.cons (by exact rm) ?_
              refine Ent.star (L := [_, _, _, _, _]) ?_
              exact Ent.cons (by exact rm) (Ent.cons (by exact rm) (Ent.cons (by exact rm) (Ent.cons (by exact rm) (Ent.cons (by exact rm) Ent.refl))))
            refine s_sub (l' := [(0, .pointer (some ⟨B.k, 0, none⟩)), (3, .pointer (some ⟨b3, 0, none⟩)), (5, .pointer (some ⟨b5, 0, none⟩)), (6, .pointer (some ⟨b6, 0, none⟩))]) ?_ (by repeat (first | exact trivial | refine And.intro (by first | exact rfl | exact congrArg some (ci (by omega))) ?_))
            exact kk.out a1 c1 fs mb a2 c2 fm a3 c3 a4 c4 a5 c5 b6 hfs hfm
        · skip
          refine sxs ?_
          refine s_alloc fun b6 => ?_
          refine sxs ?_
          refine s_call rfl (turned_s (ro.k.ent (Ent.dropL [_, _, _, _, _])) (by have := zo.k; omega)) ?_
          rintro _ _ ⟨a3, c3, rfl, rfl⟩
          refine ⟨chk_held (by exact ent), ?_⟩
          refine sxs ?_
          refine s_call rfl (turned_s (ro.r.lo.ent (Ent.dropL [_, _, _, _, _, _])) (by have := zo.r; omega)) ?_
          rintro _ _ ⟨a4, c4, rfl, rfl⟩
          refine ⟨chk_held (by exact ent), ?_⟩
          refine sxs ?_
          refine s_call rfl (turned_s (ro.r.hi.ent (Ent.dropL [_, _, _, _, _, _, _])) (by have := zo.r; omega)) ?_
          rintro _ _ ⟨a5, c5, rfl, rfl⟩
          refine ⟨chk_held (by exact ent), ?_⟩
          refine sxs ?_
          refine s_ent (.hb b6 71 (⟨o.k, o.sz, a1, c1, fs, a2, c2, fm, a3, c3, o.key.map fx, ⟨a4, c4, o.r.lo.map fx, a5, c5, o.r.hi.map fx, o.r.all⟩⟩ : MOp).cells :: lnG mb (⟨o.k, o.sz, a1, c1, fs, a2, c2, fm, a3, c3, o.key.map fx, ⟨a4, c4, o.r.lo.map fx, a5, c5, o.r.hi.map fx, o.r.all⟩⟩ : MOp) :: .hb b5 71 x.cells :: lnG mbx x :: .hb b3 71 o.cells :: B.ck :: .star L.X :: H) ?_ ?_
          · refine Ent.cons (by exact rm) ?_
            refine Ent.star (L := [_, _, _, _, _]) ?_
            exact Ent.cons (by exact rm) (Ent.cons (by exact rm) (Ent.cons (by exact rm) (Ent.cons (by exact rm) (Ent.cons (by exact rm) Ent.refl))))
          refine s_sub (l' := [(0, .pointer (some ⟨B.k, 0, none⟩)), (3, .pointer (some ⟨b3, 0, none⟩)), (5, .pointer (some ⟨b5, 0, none⟩)), (6, .pointer (some ⟨b6, 0, none⟩))]) ?_ (by repeat (first | exact trivial | refine And.intro (by first | exact rfl | exact congrArg some (ci (by omega))) ?_))
          exact kk.out a1 c1 fs mb a2 c2 fm a3 c3 a4 c4 a5 c5 b6 hfs hfm
      · skip
        refine sxs ?_
        refine s_alloc fun b6 => ?_
        refine sxs ?_
        refine s_call rfl (turnedM_s (ms := o.ms) (ro.m.ent (Ent.dropL [_, _, _, _])) (by omega) (fun m hm => by have := zo.m m hm; show m.lo.length ≤ _ ∧ m.hi.length ≤ _ ∧ m.v.length ≤ _; omega)) ?_
        rintro _ _ ⟨a2, c2, fm, rfl, hfm, rfl⟩
        refine ⟨chk_held (by exact ent), ?_⟩
        refine sxs ?_
        refine s_call rfl (turned_s (ro.k.ent (Ent.dropL [_, _, _, _, _])) (by have := zo.k; omega)) ?_
        rintro _ _ ⟨a3, c3, rfl, rfl⟩
        refine ⟨chk_held (by exact ent), ?_⟩
        refine sxs ?_
        refine s_call rfl (turned_s (ro.r.lo.ent (Ent.dropL [_, _, _, _, _, _])) (by have := zo.r; omega)) ?_
        rintro _ _ ⟨a4, c4, rfl, rfl⟩
        refine ⟨chk_held (by exact ent), ?_⟩
        refine sxs ?_
        refine s_call rfl (turned_s (ro.r.hi.ent (Ent.dropL [_, _, _, _, _, _, _])) (by have := zo.r; omega)) ?_
        rintro _ _ ⟨a5, c5, rfl, rfl⟩
        refine ⟨chk_held (by exact ent), ?_⟩
        refine sxs ?_
        refine s_ent (.hb b6 71 (⟨o.k, o.sz, a1, c1, fs, a2, c2, fm, a3, c3, o.key.map fx, ⟨a4, c4, o.r.lo.map fx, a5, c5, o.r.hi.map fx, o.r.all⟩⟩ : MOp).cells :: lnG mb (⟨o.k, o.sz, a1, c1, fs, a2, c2, fm, a3, c3, o.key.map fx, ⟨a4, c4, o.r.lo.map fx, a5, c5, o.r.hi.map fx, o.r.all⟩⟩ : MOp) :: .hb b5 71 x.cells :: lnG mbx x :: .hb b3 71 o.cells :: B.ck :: .star L.X :: H) ?_ ?_
        · refine Ent.cons (by exact rm) ?_
          refine Ent.star (L := [_, _, _, _, _]) ?_
          exact Ent.cons (by exact rm) (Ent.cons (by exact rm) (Ent.cons (by exact rm) (Ent.cons (by exact rm) (Ent.cons (by exact rm) Ent.refl))))
        refine s_sub (l' := [(0, .pointer (some ⟨B.k, 0, none⟩)), (3, .pointer (some ⟨b3, 0, none⟩)), (5, .pointer (some ⟨b5, 0, none⟩)), (6, .pointer (some ⟨b6, 0, none⟩))]) ?_ (by repeat (first | exact trivial | refine And.intro (by first | exact rfl | exact congrArg some (ci (by omega))) ?_))
        exact kk.out a1 c1 fs mb a2 c2 fm a3 c3 a4 c4 a5 c5 b6 hfs hfm
    · skip
      refine sxs ?_
      refine s_alloc fun b6 => ?_
      refine sxs ?_
      refine s_call rfl (turnedE_s (es := o.ls) (ro.l.ent (Ent.dropL [_, _, _])) (fun e he => (ro.le e he).ent (Ent.dropL [_, _, _])) (by omega) (fun e he => by have := zo.l e he; omega)) ?_
      rintro _ _ ⟨a1, c1, fs, mb, rfl, hfs, rfl⟩
      refine ⟨chk_held (by exact ent), ?_⟩
      refine sxs ?_
      refine s_call rfl (turnedM_s (ms := o.ms) (ro.m.ent (Ent.dropL [_, _, _, _])) (by omega) (fun m hm => by have := zo.m m hm; show m.lo.length ≤ _ ∧ m.hi.length ≤ _ ∧ m.v.length ≤ _; omega)) ?_
      rintro _ _ ⟨a2, c2, fm, rfl, hfm, rfl⟩
      refine ⟨chk_held (by exact ent), ?_⟩
      refine sxs ?_
      refine s_call rfl (turned_s (ro.k.ent (Ent.dropL [_, _, _, _, _])) (by have := zo.k; omega)) ?_
      rintro _ _ ⟨a3, c3, rfl, rfl⟩
      refine ⟨chk_held (by exact ent), ?_⟩
      refine sxs ?_
      refine s_call rfl (turned_s (ro.r.lo.ent (Ent.dropL [_, _, _, _, _, _])) (by have := zo.r; omega)) ?_
      rintro _ _ ⟨a4, c4, rfl, rfl⟩
      refine ⟨chk_held (by exact ent), ?_⟩
      refine sxs ?_
      refine s_call rfl (turned_s (ro.r.hi.ent (Ent.dropL [_, _, _, _, _, _, _])) (by have := zo.r; omega)) ?_
      rintro _ _ ⟨a5, c5, rfl, rfl⟩
      refine ⟨chk_held (by exact ent), ?_⟩
      refine sxs ?_
      refine s_ent (.hb b6 71 (⟨o.k, o.sz, a1, c1, fs, a2, c2, fm, a3, c3, o.key.map fx, ⟨a4, c4, o.r.lo.map fx, a5, c5, o.r.hi.map fx, o.r.all⟩⟩ : MOp).cells :: lnG mb (⟨o.k, o.sz, a1, c1, fs, a2, c2, fm, a3, c3, o.key.map fx, ⟨a4, c4, o.r.lo.map fx, a5, c5, o.r.hi.map fx, o.r.all⟩⟩ : MOp) :: .hb b5 71 x.cells :: lnG mbx x :: .hb b3 71 o.cells :: B.ck :: .star L.X :: H) ?_ ?_
      · refine Ent.cons (by exact rm) ?_
        refine Ent.star (L := [_, _, _, _, _]) ?_
        exact Ent.cons (by exact rm) (Ent.cons (by exact rm) (Ent.cons (by exact rm) (Ent.cons (by exact rm) (Ent.cons (by exact rm) Ent.refl))))
      refine s_sub (l' := [(0, .pointer (some ⟨B.k, 0, none⟩)), (3, .pointer (some ⟨b3, 0, none⟩)), (5, .pointer (some ⟨b5, 0, none⟩)), (6, .pointer (some ⟨b6, 0, none⟩))]) ?_ (by repeat (first | exact trivial | refine And.intro (by first | exact rfl | exact congrArg some (ci (by omega))) ?_))
      exact kk.out a1 c1 fs mb a2 c2 fm a3 c3 a4 c4 a5 c5 b6 hfs hfm
  intro a1 c1 fs mb a2 c2 fm a3 c3 a4 c4 a5 c5 b6 hfs hfm
  obtain ⟨y, hy⟩ : ∃ y, y = (⟨o.k, o.sz, a1, c1, fs, a2, c2, fm, a3, c3, o.key.map fx, ⟨a4, c4, o.r.lo.map fx, a5, c5, o.r.hi.map fx, o.r.all⟩⟩ : MOp) := ⟨_, rfl⟩
  rw [← hy]
  have hxo := hln.same
  have hfy : SameO (fO x) y := by
    rw [hy]
    refine ⟨?_, ?_, ?_, ?_⟩
    · show (x.ls.map fE).map KV.p = fs.map KV.p
      rw [hfs]; exact fE_mp hln.l
    · show (x.ms.map fM).map Mg.d = fm.map Mg.d
      rw [hfm]; exact fM_md hln.m
    · show x.key.map fx = o.key.map fx
      rw [hln.k]
    · show (x.r.lo.map fx, x.r.hi.map fx, x.r.all) = (o.r.lo.map fx, o.r.hi.map fx, o.r.all)
      rw [hln.lo, hln.hi, hln.all]
  have hsy : szO y = szO o := by rw [← hfy.sz, fO_sz, hxo.sz]
  clear hy hfs hfm
  -- asked
  refine s_ent (B.ck :: .star L.X :: .hb b5 71 x.cells :: .hb b3 71 o.cells :: lnG mbx x :: .hb b6 71 y.cells :: lnG mb y :: H) (by exact entq) ?_
  refine sx ?_
  refine s_call rfl (asks_s h (x := x) (y := o) (lnG_rm.ent (Ent.tl (Ent.tl Ent.refl))) (ho.ent (Ent.dropL [_, _, _, _, _])) hxo hz (by omega) (by omega) (by omega)) ?_
  rintro _ _ ⟨B1, L1, n1, cnt1, rfl, k1, ok1, e1, e2, e3, rfl⟩
  refine ⟨chk_seq, ?_⟩
  refine sx ?_
  refine s_rw (t := 71) (v' := .pointer (some ⟨B1.k, 0, none⟩)) rfl (by rw [k1]) ?_
  refine s_call rfl (asks_s ok1 (x := x) (y := o) (lnG_rm.ent (Ent.tl (Ent.tl Ent.refl))) (ho.ent (Ent.dropL [_, _, _, _, _])) hxo hz (by omega) (by omega) (by omega)) ?_
  rintro _ _ ⟨B2, L2, n2, cnt2, rfl, k2, ok2, e4, e5, e6, rfl⟩
  refine ⟨chk_seq, ?_⟩
  have k2 : B2.k = B.k := by rw [k2, k1]
  -- it stays
  refine sx ?_
  refine s_entL (.star (lEs x.la x.lc x.ls mbx) :: .star (lMs x.ma x.mc x.ms) :: ob x.ka x.kc (lm x.key) :: ob x.r.la x.r.lc (lm x.r.lo) :: ob x.r.ha x.r.hc (lm x.r.hi) :: B2.ck :: .star L2.X :: .hb b5 71 x.cells :: .hb b3 71 o.cells :: .hb b6 71 y.cells :: lnG mb y :: H) ?_ ?_
  · refine Ent.trans (H' := lnG mbx x :: B2.ck :: .star L2.X :: .hb b5 71 x.cells :: .hb b3 71 o.cells :: .hb b6 71 y.cells :: lnG mb y :: H) (by exact entq) ?_
    exact Ent.open (L := [_, _, _, _, _]) Ent.refl
  refine s_call rfl (keptE_s (es := o.ls) (fs := x.ls) (ho.l.ent (Ent.dropL [_, _, _, _, _, _, _, _, _, _])) (fun e he => (ho.le e he).ent (Ent.dropL [_, _, _, _, _, _, _, _, _, _])) hln.l) ?_
  rintro _ _ ⟨rfl, rfl⟩
  refine ⟨chk_seq, ?_⟩
  refine sx ?_
  refine s_entL (.star (lMs x.ma x.mc x.ms) :: .star (lEs x.la x.lc (x.ls.map fE) mbx) :: ob x.ka x.kc (lm x.key) :: ob x.r.la x.r.lc (lm x.r.lo) :: ob x.r.ha x.r.hc (lm x.r.hi) :: B2.ck :: .star L2.X :: .hb b5 71 x.cells :: .hb b3 71 o.cells :: .hb b6 71 y.cells :: lnG mb y :: H) (by exact entq) ?_
  refine s_call rfl (keptM_s (ms := o.ms) (fs := x.ms) (ho.m.ent (Ent.dropL [_, _, _, _, _, _, _, _, _, _])) hln.m) ?_
  rintro _ _ ⟨rfl, rfl⟩
  refine ⟨chk_seq, ?_⟩
  refine sx ?_
  refine s_rw (t := 88) (v' := .slice o.ka x.key.length o.kc) rfl (by rw [hln.k]) ?_
  refine s_entL (ob x.ka x.kc (lm x.key) :: .star (lMs x.ma x.mc (x.ms.map fM)) :: .star (lEs x.la x.lc (x.ls.map fE) mbx) :: ob x.r.la x.r.lc (lm x.r.lo) :: ob x.r.ha x.r.hc (lm x.r.hi) :: B2.ck :: .star L2.X :: .hb b5 71 x.cells :: .hb b3 71 o.cells :: .hb b6 71 y.cells :: lnG mb y :: H) (by exact entq) ?_
  refine s_call rfl (kept_s (xs := x.key) (by rw [hln.k]; exact ho.k.ent (Ent.dropL [_, _, _, _, _, _, _, _, _, _]))) ?_
  rintro _ _ ⟨rfl, rfl⟩
  refine ⟨chk_seq, ?_⟩
  refine sx ?_
  refine s_rw (t := 91) (v' := .pointer (some ((⟨b5, 0, none⟩ : Addr).add 5))) rfl rfl ?_
  refine sx ?_
  refine s_rw (t := 94) (v' := .pointer (some ((⟨b3, 0, none⟩ : Addr).add 5))) rfl rfl ?_
  refine sx ?_
  refine s_rw (t := 95) (v' := .slice o.r.la x.r.lo.length o.r.lc) rfl (by rw [hln.lo]) ?_
  refine s_entL (ob x.r.la x.r.lc (lm x.r.lo) :: ob x.ka x.kc (lm (x.key.map fx)) :: .star (lMs x.ma x.mc (x.ms.map fM)) :: .star (lEs x.la x.lc (x.ls.map fE) mbx) :: ob x.r.ha x.r.hc (lm x.r.hi) :: B2.ck :: .star L2.X :: .hb b5 71 x.cells :: .hb b3 71 o.cells :: .hb b6 71 y.cells :: lnG mb y :: H) (by exact entq) ?_
  refine s_call rfl (kept_s (xs := x.r.lo) (by rw [hln.lo]; exact ho.r.lo.ent (Ent.dropL [_, _, _, _, _, _, _, _, _, _]))) ?_
  rintro _ _ ⟨rfl, rfl⟩
  refine ⟨chk_seq, ?_⟩
  refine sx ?_
  refine s_rw (t := 98) (v' := .pointer (some ((⟨b5, 0, none⟩ : Addr).add 6))) rfl rfl ?_
  refine sx ?_
  refine s_rw (t := 101) (v' := .pointer (some ((⟨b3, 0, none⟩ : Addr).add 6))) rfl rfl ?_
  refine sx ?_
  refine s_rw (t := 102) (v' := .slice o.r.ha x.r.hi.length o.r.hc) rfl (by rw [hln.hi]) ?_
  refine s_entL (ob x.r.ha x.r.hc (lm x.r.hi) :: ob x.r.la x.r.lc (lm (x.r.lo.map fx)) :: ob x.ka x.kc (lm (x.key.map fx)) :: .star (lMs x.ma x.mc (x.ms.map fM)) :: .star (lEs x.la x.lc (x.ls.map fE) mbx) :: B2.ck :: .star L2.X :: .hb b5 71 x.cells :: .hb b3 71 o.cells :: .hb b6 71 y.cells :: lnG mb y :: H) (by exact entq) ?_
  refine s_call rfl (kept_s (xs := x.r.hi) (by rw [hln.hi]; exact ho.r.hi.ent (Ent.dropL [_, _, _, _, _, _, _, _, _, _]))) ?_
  rintro _ _ ⟨rfl, rfl⟩
  refine ⟨chk_seq, ?_⟩
  -- and asked once more
  refine sx ?_
  refine s_rw (t := 122) (v' := .pointer (some ⟨B2.k, 0, none⟩)) rfl (by rw [k2]) ?_
  refine s_rw (t := 123) (v' := .agg (fO x).cells.toArray) rfl (by rw [fO_cells]) ?_
  refine s_entL (B2.ck :: .star L2.X :: .hb b5 71 x.cells :: .hb b3 71 o.cells :: lnG mbx (fO x) :: .hb b6 71 y.cells :: lnG mb y :: H) ?_ ?_
  · refine Ent.trans (H' := .star (lEs x.la x.lc (x.ls.map fE) mbx) :: .star (lMs x.ma x.mc (x.ms.map fM)) :: ob x.ka x.kc (lm (x.key.map fx)) :: ob x.r.la x.r.lc (lm (x.r.lo.map fx)) :: ob x.r.ha x.r.hc (lm (x.r.hi.map fx)) :: B2.ck :: .star L2.X :: .hb b5 71 x.cells :: .hb b3 71 o.cells :: .hb b6 71 y.cells :: lnG mb y :: H) (by exact entq) ?_
    refine Ent.trans (H' := lnG mbx (fO x) :: B2.ck :: .star L2.X :: .hb b5 71 x.cells :: .hb b3 71 o.cells :: .hb b6 71 y.cells :: lnG mb y :: H) (Ent.star (L := [_, _, _, _, _]) Ent.refl) ?_
    exact entq
  refine s_call rfl (asks_s ok2 (x := fO x) (y := y) (lnG_rm.ent (Ent.tl (Ent.tl Ent.refl))) (lnG_rm.ent (Ent.dropL [_, _, _, _])) hfy (by omega) (by omega) (by omega) (by omega)) ?_
  rintro _ _ ⟨B3, L3, n3, cnt3, rfl, k3, ok3, e7, e8, e9, rfl⟩
  refine ⟨chk_seq, ?_⟩
  refine sx ?_
  exact s_ret1 rfl rfl ⟨B3, L3, n3, cnt3, rfl, by rw [k3, k2], ok3, by omega, by omega, by omega, rfl⟩ (by exact entq)
end Go.Sx

