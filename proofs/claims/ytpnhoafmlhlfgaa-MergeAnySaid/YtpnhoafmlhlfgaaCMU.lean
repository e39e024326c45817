/- Part of a proof: MergeUnion, walked. -/
import Derived.Test.YtpnhoafmlhlfgaaCMTj
namespace Go.Sx
open Go Go.Proofs
set_option maxRecDepth 10000
variable {w0 : World} {H : List Ck}
/-- So much is in lists of entries. -/
def sumLs (ls : List SE) : Nat := (ls.map fun s => 1 + sumG s.xs).sum
theorem sumLs_snoc (ls : List SE) (s : SE) : sumLs (ls ++ [s]) = sumLs ls + (1 + sumG s.xs) := by simp [sumLs]
theorem sumLs_get {ls : List SE} {s : SE} (h : s ∈ ls) : 1 + sumG s.xs ≤ sumLs ls := by
  induction ls with
  | nil => cases h
  | cons x ls ih =>
    simp only [sumLs, List.map_cons, List.sum_cons] at ih ⊢
    rcases List.mem_cons.1 h with rfl | h
    · omega
    · have := ih h
      omega
theorem sumLs_len : ∀ ls : List SE, ls.length ≤ sumLs ls
  | [] => Nat.zero_le _
  | s :: ls => by
    have := sumLs_len ls
    simp only [sumLs, List.map_cons, List.sum_cons, List.length_cons] at *
    omega
theorem sumG_mem {l : List KV} {e : KV} (h : e ∈ l) : 6 + e.k.length + e.v.length ≤ sumG l := by
  induction l with
  | nil => cases h
  | cons x l ih =>
    simp only [sumG, List.map_cons, List.sum_cons] at ih ⊢
    rcases List.mem_cons.1 h with rfl | h
    · omega
    · have := ih h
      omega
theorem unN_len : ∀ (n : Nat) (ls : List (List Pp)), (unN n ls).length ≤ n
  | 0, _ => Nat.le_refl _
  | n + 1, ls => by
    unfold unN
    split
    · exact Nat.zero_le _
    · split
      · have := unN_len n
        rw [List.length_cons]
        exact Nat.succ_le_succ (this _)
      · exact Nat.zero_le _
theorem Maps.tot : ∀ {fs : List OfD} {ls : List SE}, Maps fs ls → Sx.tot (fs.map OfD.l) ≤ sumLs ls
  | [], _, _ => Nat.zero_le _
  | _ :: _, [], h => by have := h.1; simp at this
  | d :: fs, s :: ls, h => by
    have h0 := h.2 0 d s rfl rfl
    have ih := Maps.tot (fs := fs) (ls := ls) ⟨by have := h.1; simpa using this, fun i d' s' hd hs => h.2 (i + 1) d' s' (by simpa using hd) (by simpa using hs)⟩
    have h4 := h0.2.2.2
    have h5 := sumG_len s.xs
    rw [List.map_cons, tot_cons]
    simp only [sumLs, List.map_cons, List.sum_cons] at ih ⊢
    omega
theorem un_sm {ls : List (List Pp)} (h : ∀ l ∈ ls, SmL l) : SmL (unionL ls) := fun e he => by
  obtain ⟨l, hl, hel⟩ := unN_mem _ _ e he
  exact h l hl e hel
theorem tot_app (a b : List (List Pp)) : Sx.tot (a ++ b) = Sx.tot a + Sx.tot b := by simp [Sx.tot]
theorem un_len (ls : List (List Pp)) : (unionL ls).length ≤ Sx.tot ls := unN_len _ _
structure MuK where
  i : Nat
  a : Option Addr
  c : Nat
  ks : List SB
structure MuI where
  i : Nat
  a : Option Addr
  c : Nat
  fs : List OfD
set_option maxHeartbeats 4000000 in
theorem gunion_s {a a' : Option Addr} {c c' : Nat} {ls : List SE} {cut : Int} {key : Bs} (hx : RLs w0 H a c ls) (hk : RBy w0 H a' c' key) (hkl : key.length ≤ 140737488355328) (hcut : -9223372036854775808 ≤ cut ∧ cut ≤ 9223372036854775807)
    (_hll : ls.length ≤ 5864062014805) (hy : ∀ s ∈ ls, ∀ e ∈ s.xs, e.k.length ≤ 140737488355328 ∧ e.v.length ≤ 140737488355328) :
    FnS Try.prog w0 H 4 #[.slice a ls.length c, .int .i64 cut, .slice a' key.length c'] (fun v H' => v = .bool true ∧ H' = H) := by
  refine fns_enter Try.func4 rfl rfl rfl ?_
  have hsl := hx.sl
  refine s_kn (Kn.sl hsl) fun ⟨l1, l2⟩ => ?_
  simp only [maxLen] at l2
  refine sx ?_
  refine s_callV rfl gawake_s ?_
  refine sx ?_
  -- how much is given
  refine s_loop (fun q : Nat × Int => [(0, .slice a ls.length c), (1, .int .i64 cut), (2, .slice a' key.length c'), (7, .bool true), (8, .int .i64 q.2), (9, .int .i64 q.1)]) (fun _ => H) (fun q => q.1 ≤ ls.length ∧ (0 ≤ q.2 ∧ q.2 ≤ 2251799813685248) ∧ (q.2 ≤ 2147483647 → q.2 = ((key.length + sumLs (ls.take q.1) : Nat) : Int))) (fun q => ls.length - q.1) (0, (key.length : Int)) ⟨Nat.zero_le _, by simp only; omega, by simp [sumLs]⟩ ?_
  rintro ⟨i, x⟩ ⟨h1, h2, h3⟩
  simp only at h1 h2 h3 ⊢
  refine sx ?_
  refine s_lif rfl (fun t1 => ?_) (fun t1 => ?_)
  · obtain ⟨s, hs⟩ := get_lt ls i (by omega)
    obtain ⟨r1, r2⟩ := hx.el s (List.mem_of_getElem? hs)
    refine sx ?_
    refine s_if rfl (fun t2 => ?_) (fun t2 => ?_)
    · refine sx ?_
      refine s_call rfl (gentries_s r1 (hy s (List.mem_of_getElem? hs))) ?_
      rintro _ H2 ⟨y, rfl, hy1, hy2, hH⟩
      rw [hH]
      refine ⟨chk_seq, ?_⟩
      refine sx ?_
      refine s_again (i + 1, x + 1 + y) ⟨by simp only; omega, by simp only; omega, fun h => ?_⟩ (by simp only; omega)
      have := h3 t2
      have hy3 := hy2 (by simp only at h; omega)
      simp only at h ⊢
      rw [snocT hs, sumLs_snoc]
      omega
    · refine sx ?_
      refine s_if rfl (fun _ => ?_) (fun t => absurd (by omega) t)
      refine sx ?_
      exact s_ret1 rfl rfl ⟨rfl, rfl⟩
  · obtain rfl : i = ls.length := by omega
    rw [List.take_length] at h3
    refine sx ?_
    refine s_if rfl (fun t2 => ?_) (fun t2 => ?_)
    · refine sx ?_
      exact s_ret1 rfl rfl ⟨rfl, rfl⟩
    have hz : key.length + sumLs ls ≤ 2147483647 := by have := h3 (by omega); omega
    have hlen := sumLs_len ls
    have hsx : ∀ s ∈ ls, s.xs.length ≤ 2147483647 ∧ ∀ e ∈ s.xs, e.k.length ≤ 140737488355328 ∧ e.v.length ≤ 140737488355328 := by
      intro s hs
      have h1 := sumLs_get hs
      have h2 := sumG_len s.xs
      exact ⟨by omega, hy s hs⟩
    clear h1 h2 h3
    refine sx ?_
    refine s_loop (fun q : MuI => [(0, .slice a ls.length c), (1, .int .i64 cut), (2, .slice a' key.length c'), (10, .slice q.a (q.fs.map OfD.fu).length q.c), (11, .int .i64 q.i)]) (fun q => ol 29 q.a q.c (q.fs.map OfD.fu) :: stars ofP q.fs :: H) (fun q => q.i ≤ ls.length ∧ Maps q.fs (ls.take q.i)) (fun q => ls.length - q.i) ⟨0, none, 0, []⟩ ⟨Nat.zero_le _, Maps.nil⟩ ?_ (he := Ent.nilS.trans (Ent.head stars_nil))
    rintro ⟨i, fa, fc, fs⟩ ⟨h1, h2⟩
    simp only at h1 h2 ⊢
    have hfl : fs.length = i := by have := h2.1; rw [List.length_take] at this; omega
    refine sx ?_
    refine s_if rfl (fun t3 => ?_) (fun t3 => ?_)
    · obtain ⟨s, hs⟩ := get_lt ls i (by omega)
      obtain ⟨r1, r2⟩ := hx.el s (List.mem_of_getElem? hs)
      obtain ⟨b1, b2⟩ := hsx s (List.mem_of_getElem? hs)
      have hsl2 : RSl w0 (ol 29 fa fc (fs.map OfD.fu) :: stars ofP fs :: H) a c ls := hsl.tl.tl
      refine sx ?_
      refine s_call rfl (rmap_s (es := s.xs) (by omega) r1.tl.tl (fun e he => (r2 e he).tl.tl) b2) ?_
      rintro _ _ ⟨ma, mc, out, so, rfl, hM, ho, rfl⟩
      refine ⟨chk_seq, ?_⟩
      obtain ⟨m1, m2⟩ := map_says hM ho
      have hol : out.length ≤ s.xs.length := by
        have h1 := congrArg List.length ho
        rw [List.length_map, List.length_map] at h1
        have h2 := (lasts_sub so).length_le
        have h3 := hM.st.len
        omega
      have hosm : SmL (out.map KV.p) := by
        intro p hp
        rw [ho] at hp
        obtain ⟨e, he, rfl⟩ := List.mem_map.1 hp
        exact b2 e (hM.st.perm.mem_iff.2 ((lasts_sub so).subset he))
      refine sx ?_
      refine s_call rfl (Of_s (es := out) RSl.hd (fun e he => (REe.st he).tl) (by omega) hosm) ?_
      rintro _ _ ⟨ob1, oa1, oc1, out1, rfl, ho1, rfl⟩
      refine ⟨chk_seq, ?_⟩
      refine sx ?_
      refine s_bsl [(⟨ob1, oa1, oc1, out1⟩ : OfD).fu] rfl rfl fun b64 => ?_
      refine s_app (xs := fs.map OfD.fu) (ys := [(⟨ob1, oa1, oc1, out1⟩ : OfD).fu]) ?_ (hby := by simp only [List.length_cons, List.length_nil, List.length_map]; omega)
      intro a4 c4
      rw [show fs.map OfD.fu ++ [(⟨ob1, oa1, oc1, out1⟩ : OfD).fu] = (fs ++ [(⟨ob1, oa1, oc1, out1⟩ : OfD)]).map OfD.fu by simp]
      refine sx ?_
      refine s_again ⟨i + 1, a4, c4, fs ++ [⟨ob1, oa1, oc1, out1⟩]⟩ ⟨by simp only; omega, ?_⟩ (by simp only; omega) (he := ?_)
      · simp only
        rw [snocT hs]
        have e1 : (⟨ob1, oa1, oc1, out1⟩ : OfD).l = out.map KV.p := ho1
        exact h2.snoc (by rw [e1]; exact m1) (by rw [e1]; exact m2) (by rw [e1]; exact hosm) (by rw [e1, List.length_map]; exact hol)
      · refine Ent.cons (by exact rm) ?_
        exact Ent.trans (H' := ofG ob1 oa1 oc1 out1 :: stars ofP fs :: H) (by exact ent) (stars_snoc (f := ofP) (s := ⟨ob1, oa1, oc1, out1⟩))
    obtain rfl : i = ls.length := by omega
    rw [List.take_length] at h2
    obtain ⟨m, hm, hm1, hm2⟩ : ∃ m : Nat, m ≤ ls.length ∧ ((cut < 0 ∨ (ls.length : Int) < cut) → m = ls.length / 2) ∧ (¬ (cut < 0 ∨ (ls.length : Int) < cut) → cut = m) := by
      by_cases h : cut < 0 ∨ (ls.length : Int) < cut
      · exact ⟨ls.length / 2, by omega, fun _ => rfl, fun g => absurd h g⟩
      · exact ⟨cut.toNat, by omega, fun g => absurd g h, fun _ => by omega⟩
    have stp : StopAt 16 := trivial
    apply s_joinU
    · intro kk
      refine sxs ?_
      refine s_lif rfl (fun t4 => ?_) (fun t4 => ?_)
      · refine sxs ?_
        refine s_rwC (t := 1) (v' := .int .i64 (m : Int)) rfl (by congr 1; have := hm1 (.inl t4); omega) ?_
        refine s_sub (l' := [(0, .slice a ls.length c), (1, .int .i64 (m : Int)), (2, .slice a' key.length c'), (10, .slice fa (fs.map OfD.fu).length fc)]) ?_ (by repeat (first | exact trivial | refine And.intro (by first | exact rfl | exact congrArg some (ci (by omega))) ?_))
        exact kk.out
      · refine sxs ?_
        refine s_if rfl (fun t5 => ?_) (fun t5 => ?_)
        · refine sxs ?_
          refine s_rwC (t := 1) (v' := .int .i64 (m : Int)) rfl (by congr 1; have := hm1 (.inr t5); omega) ?_
          refine s_sub (l' := [(0, .slice a ls.length c), (1, .int .i64 (m : Int)), (2, .slice a' key.length c'), (10, .slice fa (fs.map OfD.fu).length fc)]) ?_ (by repeat (first | exact trivial | refine And.intro (by first | exact rfl | exact congrArg some (ci (by omega))) ?_))
          exact kk.out
        · refine sxs ?_
          refine s_rwC (t := 1) (v' := .int .i64 (m : Int)) rfl (by congr 1; exact hm2 (by rintro (g | g) <;> contradiction)) ?_
          refine s_sub (l' := [(0, .slice a ls.length c), (1, .int .i64 (m : Int)), (2, .slice a' key.length c'), (10, .slice fa (fs.map OfD.fu).length fc)]) ?_ (by repeat (first | exact trivial | refine And.intro (by first | exact rfl | exact congrArg some (ci (by omega))) ?_))
          exact kk.out
    clear stp
    have hfn : fs.length ≤ 549755813888 := by omega
    have hfs : ∀ d ∈ fs, SmL d.l ∧ d.l.length ≤ 549755813888 := by
      intro d hd
      obtain ⟨i, hi⟩ := List.getElem?_of_mem hd
      obtain ⟨s, hs⟩ := get_lt ls i (by have := (List.getElem?_eq_some_iff.1 hi).1; omega)
      obtain ⟨_, _, g3, g4⟩ := h2.2 i d s hi hs
      have := (hsx s (List.mem_of_getElem? hs)).1
      exact ⟨g3, by omega⟩
    have hri := h2.ri
    have hsml : ∀ l ∈ fs.map OfD.l, SmL l := by
      intro l hl
      obtain ⟨d, hd, rfl⟩ := List.mem_map.1 hl
      exact (hfs d hd).1
    have htot := h2.tot
    have hul : (unionL (fs.map OfD.l)).length ≤ 549755813888 := by
      have := unN_len (tot (fs.map OfD.l)) (fs.map OfD.l)
      unfold unionL
      omega
    refine sx ?_
    refine s_call rfl (union_s (fs := fs.map OfD.fu) RSl.hd (by rw [List.length_map]; omega)) ?_
    rintro _ _ ⟨u1, ua, uc, rfl, rfl⟩
    refine ⟨chk_seq, ?_⟩
    refine s_entL (uG u1 ua uc (fs.map OfD.fu) (stars ofP fs) :: ol 29 fa fc (fs.map OfD.fu) :: H) (Ent.star (by exact ent)) ?_
    refine sx ?_
    refine s_call rfl (all_s (most := -1) (.inr (ofd_union hfn hfs)) hul (un_sm hsml)) ?_
    rintro _ _ ⟨xa, xc, os, rfl, ho, rfl⟩
    rw [tk_all] at ho
    refine ⟨chk_seq, ?_⟩
    rw [allG_same]
    refine s_entL (ol 29 fa fc (fs.map OfD.fu) :: stars ofP fs :: ol 36 xa xc os :: stars oKVs os :: H) ?_ ?_
    · refine Ent.trans (H' := uG u1 ua uc (fs.map OfD.fu) (stars ofP fs) :: ol 29 fa fc (fs.map OfD.fu) :: ol 36 xa xc os :: stars oKVs os :: H) (by exact ent) ?_
      exact Ent.open (by exact ent)
    have hfl2 : fs.length = ls.length := hfl
    have hlt : ((fs.take m).map OfD.fu).length = m := by rw [List.length_map, List.length_take]; omega
    have hld : ((fs.drop m).map OfD.fu).length = fs.length - m := by rw [List.length_map, List.length_drop]
    have hr1 : ∀ {B : List Ck}, RSl w0 (ol 29 fa fc (fs.map OfD.fu) :: B) fa fc ((fs.take m).map OfD.fu) := fun {B} => by
      rw [List.map_take]
      exact RSl.hd.take (by rw [List.length_map]; omega)
    have hr2 : ∀ {B : List Ck}, RSl w0 (ol 29 fa fc (fs.map OfD.fu) :: B) (sl fa fc m 1) (fc - m) ((fs.drop m).map OfD.fu) := fun {B} => by
      rw [List.map_drop]
      exact RSl.hd.drop (j := m) (by rw [List.length_map]; omega)
    refine s_knL (Kn.sl (xs := fs.map OfD.fu) (a := fa) (c := fc) RSl.hd) fun ⟨q1, q2⟩ => ?_
    have hml : (fs.map OfD.fu).length = fs.length := List.length_map _
    refine sx ?_
    refine s_drH ([] : List Ck) (.one true 0 (.one true 1 (.one true 2 (.one true 4 (.one true 5 (.one true 6 (.one false 3 (.one false 7 (.one false 8 (.one false 9 (.one false 10 (.one true 11 .nil)))))))))))) mixed (by kernel_rfl) ?_ (he := Ent.nil)
    refine sx ?_
    have c1 := union_s (w0 := w0) (H := ol 29 fa fc (fs.map OfD.fu) :: stars ofP fs :: ol 36 xa xc os :: stars oKVs os :: H) (fs := (fs.take m).map OfD.fu) hr1 (by rw [hlt]; omega)
    rw [hlt] at c1
    refine s_call rfl c1 ?_
    rintro _ _ ⟨u2, ua2, uc2, rfl, rfl⟩
    refine ⟨chk_held Ent.nil, ?_⟩
    refine sx ?_
    have c2 := union_s (w0 := w0) (H := ol 29 fa fc (fs.map OfD.fu) :: (unL u2 ua2 uc2 ((fs.take m).map OfD.fu) ++ stars ofP fs :: ol 36 xa xc os :: stars oKVs os :: H)) (fs := (fs.drop m).map OfD.fu) hr2 (by rw [hld]; omega)
    rw [hld, ← hml] at c2
    refine s_entL (ol 29 fa fc (fs.map OfD.fu) :: (unL u2 ua2 uc2 ((fs.take m).map OfD.fu) ++ stars ofP fs :: ol 36 xa xc os :: stars oKVs os :: H)) (by exact ent) ?_
    refine s_call rfl c2 ?_
    rintro _ _ ⟨u3, ua3, uc3, rfl, rfl⟩
    refine ⟨chk_held Ent.nil, ?_⟩
    refine sx ?_
    refine s_bsl [(⟨some (33, [.pointer (some ⟨u2, 0, none⟩)])⟩ : Fu), ⟨some (33, [.pointer (some ⟨u3, 0, none⟩)])⟩] rfl rfl fun b88 => ?_
    refine s_call rfl (union_s (fs := [(⟨some (33, [.pointer (some ⟨u2, 0, none⟩)])⟩ : Fu), ⟨some (33, [.pointer (some ⟨u3, 0, none⟩)])⟩]) (by exact rsl) (by simp)) ?_
    rintro _ _ ⟨u4, ua4, uc4, rfl, rfl⟩
    refine ⟨chk_held Ent.nil, ?_⟩
    have hfs1 : ∀ d ∈ fs.take m, SmL d.l ∧ d.l.length ≤ 549755813888 := fun d hd => hfs d (List.mem_of_mem_take hd)
    have hfs2 : ∀ d ∈ fs.drop m, SmL d.l ∧ d.l.length ≤ 549755813888 := fun d hd => hfs d (List.mem_of_mem_drop hd)
    have hU2 := ofd_union (w0 := w0) (b := u2) (a := ua2) (c := uc2) (fs := fs.take m) (by rw [List.length_take]; omega) hfs1
    have hU3 := ofd_union (w0 := w0) (b := u3) (a := ua3) (c := uc3) (fs := fs.drop m) (by rw [List.length_drop]; omega) hfs2
    have htw : unionL [unionL ((fs.take m).map OfD.l), unionL ((fs.drop m).map OfD.l)] = unionL (fs.map OfD.l) := by
      have hap : fs.map OfD.l = (fs.take m).map OfD.l ++ (fs.drop m).map OfD.l := by rw [← List.map_append, List.take_append_drop]
      rw [hap] at hri ⊢
      exact union_two (fun l hl => hri l (List.mem_append_left _ hl)) (fun l hl => hri l (List.mem_append_right _ hl))
    have htt : tot ((fs.take m).map OfD.l) + tot ((fs.drop m).map OfD.l) = tot (fs.map OfD.l) := by rw [← tot_app, ← List.map_append, List.take_append_drop]
    obtain ⟨G2, hG2⟩ : ∃ g, g = uG u2 ua2 uc2 ((fs.take m).map OfD.fu) (stars ofP (fs.take m)) := ⟨_, rfl⟩
    obtain ⟨G3, hG3⟩ : ∃ g, g = uG u3 ua3 uc3 ((fs.drop m).map OfD.fu) (stars ofP (fs.drop m)) := ⟨_, rfl⟩
    rw [← hG2] at hU2
    rw [← hG3] at hU3
    have hl1 : (unionL ((fs.take m).map OfD.l)).length ≤ 549755813888 ∧ SmL (unionL ((fs.take m).map OfD.l)) := by
      have h1 := un_len ((fs.take m).map OfD.l)
      refine ⟨by omega, un_sm fun l hl => ?_⟩
      obtain ⟨d, hd, rfl⟩ := List.mem_map.1 hl
      exact (hfs1 d hd).1
    have hl2' : (unionL ((fs.drop m).map OfD.l)).length ≤ 549755813888 ∧ SmL (unionL ((fs.drop m).map OfD.l)) := by
      have h1 := un_len ((fs.drop m).map OfD.l)
      refine ⟨by omega, un_sm fun l hl => ?_⟩
      obtain ⟨d, hd, rfl⟩ := List.mem_map.1 hl
      exact (hfs2 d hd).1
    have hU4 : TvC Try.prog w0 (uG u4 ua4 uc4 [(⟨some (33, [.pointer (some ⟨u2, 0, none⟩)])⟩ : Fu), ⟨some (33, [.pointer (some ⟨u3, 0, none⟩)])⟩] (.star [G2, G3])) (.func (.func 33) #[] #[.pointer (some ⟨u4, 0, none⟩)]) (unionL (fs.map OfD.l)) := by
      rw [← htw]
      refine ⟨33, [.pointer (some ⟨u4, 0, none⟩)], rfl, inferInstance, union_tell rfl (by simp) ?_⟩
      intro i f l hf hl
      match i, hf, hl with
      | 0, hf, hl =>
        cases hf
        cases hl
        exact ⟨hl1.1, hl1.2, true, fun _ => .star [G2, G3], .star [G2, G3], .inr hU2.fst⟩
      | 1, hf, hl =>
        cases hf
        cases hl
        exact ⟨hl2'.1, hl2'.2, true, fun _ => .star [G2, G3], .star [G2, G3], .inr hU3.snd⟩
    refine s_entL (uG u4 ua4 uc4 [(⟨some (33, [.pointer (some ⟨u2, 0, none⟩)])⟩ : Fu), ⟨some (33, [.pointer (some ⟨u3, 0, none⟩)])⟩] (.star [G2, G3]) :: ol 36 xa xc os :: stars oKVs os :: H) ?_ ?_
    · refine Ent.trans (H' := stars ofP fs :: (unL u4 ua4 uc4 [(⟨some (33, [.pointer (some ⟨u2, 0, none⟩)])⟩ : Fu), ⟨some (33, [.pointer (some ⟨u3, 0, none⟩)])⟩] ++ (unL u3 ua3 uc3 ((fs.drop m).map OfD.fu) ++ (unL u2 ua2 uc2 ((fs.take m).map OfD.fu) ++ ol 36 xa xc os :: stars oKVs os :: H)))) (by exact ent) ?_
      have hsp : ∀ {B : List Ck}, Ent (stars ofP fs :: B) (stars ofP (fs.take m) :: stars ofP (fs.drop m) :: B) := fun {B} => by
        have h := stars_append (f := ofP) (F := fs.take m) (G := fs.drop m) (H := B)
        rw [List.take_append_drop] at h
        exact h
      refine hsp.trans ?_
      refine Ent.star ?_
      refine Ent.cons (by exact rm) (Ent.cons (by exact rm) ?_)
      refine Ent.star ?_
      rw [hG2, hG3]
      refine Ent.star ?_
      refine Ent.cons (by exact rm) (Ent.cons (by exact rm) (Ent.cons (by exact rm) ?_))
      refine Ent.star ?_
      exact ent
    refine sx ?_
    refine s_call rfl (all_s (most := -1) (.inr hU4) hul (un_sm hsml)) ?_
    rintro _ _ ⟨xb, yb, ot, rfl, hot, rfl⟩
    rw [tk_all] at hot
    refine ⟨chk_held Ent.nil, ?_⟩
    rw [allG_same]
    refine s_entL (ol 36 xa xc os :: stars oKVs os :: ol 36 xb yb ot :: stars oKVs ot :: H) (by exact ent) ?_
    refine sx ?_
    have hosr : ∀ e ∈ os, REe w0 (stars oKVs os :: ol 36 xb yb ot :: stars oKVs ot :: H) e := fun e he => REe.st he
    have horl : RiL (os.map KV.p) := by rw [ho]; exact union_ri hri
    refine s_kn (Kn.sl (xs := os) (a := xa) (c := xc) RSl.hd) fun ⟨v1, v2⟩ => ?_
    simp only [maxLen] at v2
    refine s_loop (fun i : Nat => [(0, .slice a ls.length c), (2, .slice a' key.length c'), (12, .slice xa os.length xc), (13, .slice xb ot.length yb), (14, .int .i64 (i : Int))]) (fun _ => ol 36 xa xc os :: stars oKVs os :: ol 36 xb yb ot :: stars oKVs ot :: H) (fun i => 1 ≤ i) (fun i => os.length - i) 1 (Nat.le_refl _) ?_
    intro i hi1
    refine sx ?_
    refine s_if rfl (fun t6 => ?_) (fun t6 => ?_)
    · obtain ⟨e1, he1⟩ := get_lt os i (by omega)
      obtain ⟨e0, he0⟩ := get_lt os (i - 1) (by omega)
      have g0 := (hosr e0 (List.mem_of_getElem? he0)).k
      have g1 := (hosr e1 (List.mem_of_getElem? he1)).k
      have hlt : cmp e0.k e1.k < 0 := by
        have p0 := get_map (f := KV.p) he0
        have p1 := get_map (f := KV.p) he1
        obtain ⟨z0, w0'⟩ := List.getElem?_eq_some_iff.1 p0
        obtain ⟨z1, w1'⟩ := List.getElem?_eq_some_iff.1 p1
        have := List.pairwise_iff_getElem.1 horl (i - 1) i z0 z1 (by omega)
        rw [w0', w1'] at this
        exact this
      refine sx ?_; refine s_dr (.one true 0 (.one true 1 (.one true 2 (.one true 3 (.one true 4 (.one true 5 (.one true 6 (.one true 7 (.one true 8 (.one true 9 (.one true 10 (.one false 11 (.one true 12 .nil))))))))))))) mixed (by kernel_rfl) ?_; refine sx ?_
      refine s_callV rfl (compare_s (xs := e0.k) (ys := e1.k) (by exact rby) (by exact rby)) ?_
      refine sx ?_
      refine s_if rfl (fun t7 => absurd t7 (by omega)) (fun _ => ?_)
      refine sx ?_
      exact s_again (i + 1) (by omega) (by omega)
    have hsame : ∀ k, getE os k = fstE ls k := fun k => by rw [← getL_map, ho, union_get hri, h2.fst]
    refine sx ?_
    refine s_bsl [(⟨a', c', key⟩ : SB)] rfl rfl fun b111 => ?_
    refine sx ?_
    refine s_loop (fun q : MuK => [(0, .slice a ls.length c), (12, .slice xa os.length xc), (13, .slice xb ot.length yb), (15, .slice q.a q.ks.length q.c), (16, .int .i64 (q.i : Int))]) (fun q => ol 24 q.a q.c q.ks :: ol 36 xa xc os :: stars oKVs os :: ol 36 xb yb ot :: stars oKVs ot :: H) (fun q => q.i ≤ ls.length ∧ (∀ s ∈ q.ks, RBy w0 H s.a s.c s.xs) ∧ q.ks.length ≤ 1 + sumLs (ls.take q.i)) (fun q => ls.length - q.i) ⟨0, some ⟨b111, 0, none⟩, 1, [⟨a', c', key⟩]⟩ ⟨Nat.zero_le _, by simpa using hk, by simp⟩ ?_
    rintro ⟨i2, ka, kc, ks⟩ ⟨k1, k2, k3⟩
    simp only at k1 k2 k3 ⊢
    have hsl3 : RSl w0 (ol 36 xa xc os :: stars oKVs os :: ol 36 xb yb ot :: stars oKVs ot :: H) a c ls := hsl.tl.tl.tl.tl
    refine sx ?_
    refine s_if rfl (fun t7 => ?_) (fun t7 => ?_)
    · obtain ⟨s, hs⟩ := get_lt ls i2 (by omega)
      obtain ⟨r1, r2⟩ := hx.el s (List.mem_of_getElem? hs)
      have r1' : RSl w0 (ol 36 xa xc os :: stars oKVs os :: ol 36 xb yb ot :: stars oKVs ot :: H) s.a s.c s.xs := r1.tl.tl.tl.tl
      have hsn := sumLs_snoc (ls.take i2) s
      rw [← snocT hs] at hsn
      have hg6 := sumG_len s.xs
      have hgm := sumLs_get (List.mem_of_getElem? hs)
      have htl : sumLs (ls.take i2) ≤ sumLs ls := by
        have e := congrArg sumLs (List.take_append_drop i2 ls)
        unfold sumLs at e ⊢
        rw [List.map_append, List.sum_append] at e
        omega
      refine sx ?_
      refine s_loop (fun q : MuK => [(0, .slice a ls.length c), (12, .slice xa os.length xc), (13, .slice xb ot.length yb), (15, .slice q.a q.ks.length q.c), (16, .int .i64 (i2 : Int)), (17, .int .i64 (q.i : Int))]) (fun q => ol 24 q.a q.c q.ks :: ol 36 xa xc os :: stars oKVs os :: ol 36 xb yb ot :: stars oKVs ot :: H) (fun q => q.i ≤ s.xs.length ∧ (∀ s ∈ q.ks, RBy w0 H s.a s.c s.xs) ∧ q.ks.length ≤ 1 + sumLs (ls.take i2) + q.i) (fun q => s.xs.length - q.i) ⟨0, ka, kc, ks⟩ ⟨Nat.zero_le _, k2, k3⟩ ?_
      rintro ⟨j2, ja, jc, js⟩ ⟨j3, j4, j5⟩
      simp only at j3 j4 j5 ⊢
      have hb := (hsx s (List.mem_of_getElem? hs)).1
      refine sx ?_
      refine s_if rfl (fun t8 => ?_) (fun t8 => ?_)
      · obtain ⟨e, he⟩ := get_lt s.xs j2 (by omega)
        have her := (r2 e (List.mem_of_getElem? he)).k
        refine sx ?_
        refine s_bsl [(⟨e.ka, e.kc, e.k⟩ : SB)] rfl rfl fun b136 => ?_
        refine s_app (xs := js) (ys := [(⟨e.ka, e.kc, e.k⟩ : SB)]) ?_ (hby := by simp only [List.length_cons, List.length_nil]; omega)
        intro a4 c4
        refine sx ?_
        refine s_again ⟨j2 + 1, a4, c4, js ++ [⟨e.ka, e.kc, e.k⟩]⟩ ⟨by simp only; omega, ?_, by simp only [List.length_append, List.length_cons, List.length_nil]; omega⟩ (by simp only; omega)
        intro x hxm
        rcases List.mem_append.1 hxm with hxm | hxm
        · exact j4 x hxm
        · rw [List.mem_singleton.1 hxm]
          exact her
      · refine sx ?_
        exact s_again ⟨i2 + 1, ja, jc, js⟩ ⟨by simp only; omega, j4, by simp only; omega⟩ (by simp only; omega)
    refine sx ?_
    refine s_kn (Kn.sl (xs := ks) (a := ka) (c := kc) RSl.hd) fun ⟨w1, w2⟩ => ?_
    simp only [maxLen] at w2
    refine s_loop (fun i : Nat => [(0, .slice a ls.length c), (12, .slice xa os.length xc), (13, .slice xb ot.length yb), (15, .slice ka ks.length kc), (18, .int .i64 (i : Int))]) (fun _ => ol 24 ka kc ks :: ol 36 xa xc os :: stars oKVs os :: ol 36 xb yb ot :: stars oKVs ot :: H) (fun i => i ≤ ks.length) (fun i => ks.length - i) 0 (Nat.zero_le _) ?_
    intro i3 hi3
    refine sx ?_
    refine s_if rfl (fun t9 => ?_) (fun t9 => ?_)
    · obtain ⟨kk, hkk⟩ := get_lt ks i3 (by omega)
      have hkr := k2 kk (List.mem_of_getElem? hkk)
      refine sx ?_
      refine s_call rfl (gfirst_s (key := kk.xs) (hx.tl.tl.tl.tl.tl) (hkr.tl.tl.tl.tl.tl)) ?_
      rintro _ H2 ⟨va, vc, rfl, hv, hH⟩
      rw [hH]
      refine ⟨chk_seq, ?_⟩
      refine sx ?_
      refine s_call rfl (gfind_s (key := kk.xs) (es := os) RSl.hd.tl (fun e he => (hosr e he).tl.tl) (hkr.tl.tl.tl.tl.tl)) ?_
      rintro _ H3 ⟨vb, vd, rfl, hv2, hH3⟩
      rw [hH3]
      refine ⟨chk_seq, ?_⟩
      rw [hsame] at hv2 ⊢
      obtain ⟨gb, hgb⟩ : ∃ b, b = (fstE ls kk.xs).isSome := ⟨_, rfl⟩
      obtain ⟨gw, hgw⟩ : ∃ w, w = (fstE ls kk.xs).getD [] := ⟨_, rfl⟩
      rw [← hgw] at hv hv2 ⊢
      rw [← hgb]
      cases gb
      · refine sx ?_
        exact s_again (i3 + 1) (by omega) (by omega)
      · refine sx ?_
        exact s_again (i3 + 1) (by omega) (by omega)
    have heq : os.map KV.p = ot.map KV.p := by rw [ho, hot]
    refine sx ?_
    refine s_callV rfl (gsameE_s (xs := os) (ys := ot) RSl.hd.tl (fun e he => (hosr e he).tl.tl) RSl.hd.tl.tl.tl (fun e he => (REe.st he).tl.tl.tl.tl)) ?_
    rw [decide_eq_true heq]
    refine sx ?_
    exact s_ret1 rfl rfl ⟨rfl, rfl⟩
end Go.Sx
