/- Part of a proof: MergePlays, walked. -/
import Derived.Test.YtpnhoafmlhlfgaaGreatCPZ
import Derived.Test.YtpnhoafmlhlfgaaGreatCMYj
namespace Go.Sx
open Go Go.Proofs
set_option maxRecDepth 10000
variable {w0 : World} {H : List Ck}
theorem mem_open {T : Nat → Ck} {W : Ck} {D : List Ck} {j : Nat} {R : List Ck} : Ent (mem T W D j :: R) (T j :: W :: .star D :: R) := Ent.open (Ent.head (Ent.head (Ent.star Ent.refl)))
theorem mem_shut {T : Nat → Ck} {W : Ck} {D : List Ck} {j : Nat} {R : List Ck} : Ent (T j :: W :: .star D :: R) (mem T W D j :: R) := Ent.star (Ent.head (Ent.head (Ent.open Ent.refl)))
theorem tl_shut {t c j : Nat} {a : Option Addr} {es : List KV} (q : Int × Int) {R : List Ck} : Ent (tlC t a c es.length j q :: ol 51 a c es :: stars oKVs es :: R) (tlG t a c es j :: R) :=
  Ent.trans (exK_in (c := tlC t a c es.length j) q) (Ent.star (L := [tlk t a c es.length j, ol 51 a c es, stars oKVs es]) Ent.refl)
def obW (k : Nat) (wv : Value) : Ob := ⟨k, [wv, vnl, .int .i64 0], none, 0, [], none, 0, []⟩
theorem obW_wd {k : Nat} {wv : Value} : Wd (obW k wv) 0 wv vnl := ⟨⟨rfl, Nat.le_refl _, fun s h => by cases h⟩, 0, rfl⟩
theorem obW_ent {k : Nat} {wv : Value} {H : List Ck} : Ent (.hb k 34 [vnl, vnl, wv, vnl, .int .i64 0] :: H) ((obW k wv).ck :: H) := by
  refine Ent.star ?_
  refine Ent.head ?_
  exact Ent.nilS.trans (Ent.head (Ent.nilS.trans (Ent.head fam_nil)))
theorem tk_sub {m : Int} {L : List Pp} : (tk m L).Sublist L := by
  unfold tk
  split
  · exact List.Sublist.refl _
  · exact List.take_sublist _ _
theorem tkG_same {most : Int} {n : Nat} {g : Ck} : tkG most n g g = g := by simp [tkG]
section
variable {P : Program} {S : World → Prop} {l : List (Nat × Value)} {d : Option Nat} {ty : TypeId} {pos : String} {af : Array Edge} {g : Option (Nat × Bool)}
/-- A method of somebody's, as a value. -/
theorem y_mkfB {f : Go.Fn} {x : Operand} {v : Value} (hx : ev l x = some v) : Y P S ⟨d, .makeFunc f #[x] #[], ty, pos, af, g⟩ l (.func f #[v] #[]) := .mk fun w _ ρ hρ => by
  simp [execOp, Instr.makeFunc, hρ _ _ hx]
end
structure GpI where
  i : Nat
  B : Ob
set_option maxHeartbeats 8000000 in
theorem gplays_s {a b : Option Addr} {c d : Nat} {es : List KV} {ss : List Stp} {most inner : Int} (hx : RSl w0 H a c es) (hr : ∀ e ∈ es, REe w0 H e) (hs : RSl w0 H b d ss) (hrs : ∀ o ∈ ss, RStp w0 H o)
    (hy : ∀ e ∈ es, e.k.length ≤ 140737488355328 ∧ e.v.length ≤ 140737488355328) (hll : ss.length ≤ 2000000000000) :
    FnS Tryz.prog w0 H 3 #[.slice a es.length c, .slice b ss.length d, .int .i64 most, .int .i64 inner] (fun v H' => v = .bool true ∧ H' = H) := by
  refine fns_enter Tryz.func3 rfl rfl rfl ?_
  refine sx ?_
  refine s_callV rfl gawake_s ?_
  refine sx ?_
  refine s_call rfl (beyond_s hx hy hs hrs) ?_
  rintro _ H2 ⟨bb, rfl, hb, hH⟩
  rw [hH]
  clear hH
  refine ⟨chk_seq, ?_⟩
  cases bb
  rotate_left
  · refine sx ?_
    exact s_ret1 rfl rfl ⟨rfl, rfl⟩
  have hB := hb rfl
  clear hb
  have hgl := sumG_len es
  refine sx ?_
  refine s_boxA (cs := [vnl, vnl, vnl, vnl, .int .i64 0]) rfl fun b11 => ?_
  refine sx ?_
  refine s_call rfl (rmap_s (es := es) (by omega) hx.tl (fun e he => (hr e he).tl) hy) ?_
  rintro _ _ ⟨ma, mc, o1, s1, rfl, hM1, ho1, rfl⟩
  refine ⟨chk_seq, ?_⟩
  have hol : o1.length ≤ es.length := by
    have h1 := congrArg List.length ho1
    rw [List.length_map, List.length_map] at h1
    have h2 := (lasts_sub s1).length_le
    have h3 := hM1.st.len
    omega
  have hosz : SzL (o1.map KV.p) := by
    intro p hp
    rw [ho1] at hp
    obtain ⟨e, he, rfl⟩ := List.mem_map.1 hp
    exact sz_of (es := es) (by omega) _ (List.mem_map_of_mem (hM1.st.perm.mem_iff.2 ((lasts_sub s1).subset he)))
  obtain ⟨m1, m2⟩ := map_says hM1 ho1
  refine sx ?_
  refine s_boxA (cs := [.slice ma o1.length mc, .int .i64 0, .int .i64 0, .int .i64 0]) rfl fun b12 => ?_
  refine sx ?_
  refine s_yS rfl rfl rfl (y_mkfB rfl) ?_
  refine sx ?_
  refine s_call rfl (check_s (v := mtv 10 (.pointer (some ⟨b12, 0, none⟩))) rfl (p := none)) ?_
  rintro _ _ ⟨c2, c3, rfl, rfl⟩
  refine ⟨chk_seq, ?_⟩
  refine sx ?_
  refine s_call rfl (rmap_s (es := es) (by omega) (hx.ent (Ent.dropL [_, _, _, _, _, _])) (fun e he => (hr e he).ent (Ent.dropL [_, _, _, _, _, _])) hy) ?_
  rintro _ _ ⟨mb, md, o2, s2, rfl, hM2, ho2, rfl⟩
  refine ⟨chk_seq, ?_⟩
  have hE : o2.map KV.p = o1.map KV.p := (map_says hM2 ho2).1.uniq m1 fun k => by rw [(map_says hM2 ho2).2 k, m2 k]
  clear hM1 ho1 hM2 ho2 m2
  obtain ⟨T, hT⟩ : ∃ T, T = tlG b12 ma mc o1 := ⟨_, rfl⟩
  have hl2 : o2.length = o1.length := by simpa using congrArg List.length hE
  have hq0 : MdOk w0 T (sumG es) ss ⟨0, 36, [.pointer (some ⟨c3, 0, none⟩), .pointer (some ⟨c2, 0, none⟩)], [.hb c2 40 [mtv 10 (.pointer (some ⟨b12, 0, none⟩))], .hb c3 53 [.pointer none]], [], none, 0, mb, md, o2⟩ := by
    refine ⟨?_, by show RiL (o2.map KV.p); rw [hE]; exact m1, by show SzL (o2.map KV.p); rw [hE]; exact hosz, by show o2.length ≤ _; omega, Nat.le_refl _, Nat.zero_le _⟩
    show RT w0 T _ _ _ (o2.map KV.p)
    rw [hE, hT]
    refine rt_first (fun j hj => tell_s (by omega) fun e he => ?_) hosz.sm m1
    have := hosz _ (List.mem_map_of_mem he)
    have h1 : e.k.length ≤ 2147483647 ∧ e.v.length ≤ 2147483647 := this
    omega
  refine s_entL (mdP b11 ⟨0, 36, [.pointer (some ⟨c3, 0, none⟩), .pointer (some ⟨c2, 0, none⟩)], [.hb c2 40 [mtv 10 (.pointer (some ⟨b12, 0, none⟩))], .hb c3 53 [.pointer none]], [], none, 0, mb, md, o2⟩ (tlC b12 ma mc o1.length 0 (0, 0) :: ol 51 ma mc o1 :: stars oKVs o1 :: H)) ?_ ?_
  · refine Ent.trans (H' := .hb b11 34 [vnl, vnl, vnl, vnl, .int .i64 0] :: .hb c2 40 [mtv 10 (.pointer (some ⟨b12, 0, none⟩))] :: .hb c3 53 [.pointer none] :: ol 51 mb md o2 :: stars oKVs o2 :: tlC b12 ma mc o1.length 0 (0, 0) :: ol 51 ma mc o1 :: stars oKVs o1 :: H) (by exact ent) ?_
    exact Ent.head (Ent.nilS.trans (Ent.head (stars_nil.trans (Ent.head (Ent.star (L := [_, _]) Ent.refl)))))
  have hmade := made_s (W := b11) (H := tlC b12 ma mc o1.length 0 (0, 0) :: ol 51 ma mc o1 :: stars oKVs o1 :: H) _ hq0 rfl (hs.ent (Ent.dropL [_, _, _])) (fun o ho => (hrs o ho).ent (Ent.dropL [_, _, _])) hB hll
  simp only [MdI.v, mdP] at hmade
  refine sx ?_
  refine s_call rfl hmade ?_
  clear hmade hq0
  rintro _ _ ⟨q, rfl, hq, rfl⟩
  refine ⟨chk_seq, ?_⟩
  obtain ⟨iq, k, cap, D, ws, wa, wc, la, lc, out⟩ := q
  obtain ⟨hrt, hri, hsz, hln, hwl, hle⟩ := hq
  simp only [MdI.v] at hrt hri hsz hln hwl hle ⊢
  have hln2 : out.length ≤ 2147483647 := by have := sumS_le ss iq; omega
  refine sx ?_
  obtain ⟨f, hf, hTv⟩ := hrt 0 (by omega)
  have hone : (Value.func (.func k) #[] cap.toArray).oneCell' = true := rt_one hrt
  obtain ⟨G, hG⟩ : ∃ G, G = mem T (stars exL ws) D 0 := ⟨_, rfl⟩
  rw [← hG] at hTv
  have hzo : ∀ e ∈ out, e.k.length ≤ 140737488351232 ∧ e.v.length ≤ 140737488351232 := fun e he => by
    have h1 : e.k.length ≤ 2147483647 ∧ e.v.length ≤ 2147483647 := hsz _ (List.mem_map_of_mem he)
    omega
  have hGo : ∀ R, Ent (G :: R) (tlk b12 ma mc o1.length 0 :: ol 51 ma mc o1 :: stars oKVs o1 :: stars exL ws :: .star D :: R) := fun R => by
    rw [hG, hT]
    refine mem_open.trans ?_
    exact Ent.open (L := [_, _, _]) Ent.refl
  have hGs : ∀ q R, Ent (tlC b12 ma mc o1.length 0 q :: ol 51 ma mc o1 :: stars oKVs o1 :: stars exL ws :: .star D :: R) (G :: R) := fun q R => by
    rw [hG, hT]
    exact (tl_shut q).trans mem_shut
  obtain ⟨wv, hwv⟩ : ∃ wv, wv = Value.slice wa ws.length wc := ⟨_, rfl⟩
  rw [← hwv]
  refine s_entL (G :: (obW b11 wv).ck :: ol 53 wa wc ws :: ol 51 la lc out :: stars oKVs out :: H) ?_ ?_
  · refine Ent.trans (H' := tlC b12 ma mc o1.length 0 (0, 0) :: ol 51 ma mc o1 :: stars oKVs o1 :: stars exL ws :: .star D :: .hb b11 34 [vnl, vnl, wv, vnl, .int .i64 0] :: ol 53 wa wc ws :: ol 51 la lc out :: stars oKVs out :: H) (by exact ent) ?_
    exact (hGs (0, 0) _).trans (Ent.head obW_ent)
  refine sx ?_
  -- told up to some entry
  refine s_call rfl (told_s (most := most) (obW_wd (k := b11) (wv := wv)) hTv RSl.hd.tl (fun e he => (REe.st he).tl.tl) hzo (by omega)) ?_
  rintro _ _ ⟨rfl, B1, k1, w1, rfl⟩
  refine ⟨chk_seq, ?_⟩
  rw [tkG_same]
  have k1 : B1.k = b11 := k1
  refine sx ?_
  refine s_entL (tlk b12 ma mc o1.length 0 :: ol 51 ma mc o1 :: stars oKVs o1 :: stars exL ws :: .star D :: B1.ck :: ol 53 wa wc ws :: ol 51 la lc out :: stars oKVs out :: H) (hGo _) ?_
  refine s_exL fun q1 => ?_
  refine sx ?_
  refine s_entL (G :: B1.ck :: ol 53 wa wc ws :: ol 51 la lc out :: stars oKVs out :: H) (hGs q1 _) ?_
  -- told whole, and once more within
  refine s_rw (t := 70) (v' := .pointer (some ⟨B1.k, 0, none⟩)) rfl (by rw [k1]) ?_
  refine s_call rfl (toldIn_s (most := -1) (inner := inner) w1 hTv RSl.hd.tl (fun e he => (REe.st he).tl.tl) hzo (by omega) (fun u => ?_)) ?_
  · obtain ⟨f2, _, hT2⟩ := hrt (f u) (by have := hf u; omega)
    exact ⟨_, hT2⟩
  rintro _ _ ⟨rfl, B2, k2, w2, rfl⟩
  refine ⟨chk_seq, ?_⟩
  rw [tkG_same]
  have k2 : B2.k = b11 := by rw [k2, k1]
  refine sx ?_
  refine s_call rfl (all_s (most := most) (.inr hTv) (by rw [List.length_map]; omega) hsz.sm) ?_
  rintro _ _ ⟨x5, y5, o5, rfl, h5, rfl⟩
  rw [allG_same]
  refine ⟨chk_seq, ?_⟩
  refine sx ?_
  refine s_call rfl (g13all_s (es := out) (most := most) (by exact rsl) (fun e he => (REe.st (H := []) he).ent (by exact ent)) (by omega) hsz.sm) ?_
  rintro _ _ ⟨x6, y6, o6, rfl, h6, rfl⟩
  refine ⟨chk_seq, ?_⟩
  refine sx ?_
  refine s_callV rfl (gsameE_s (xs := o5) (ys := o6) RSl.hd.tl.tl (fun e he => (REe.st he).tl.tl.tl) RSl.hd (fun e he => (REe.st he).tl)) ?_
  have h56 : o5.map KV.p = o6.map KV.p := by rw [h5, h6]
  rw [show decide (o5.map KV.p = o6.map KV.p) = true by rw [h56]; simp]
  have hl56 : o6.length = o5.length := by simpa using congrArg List.length h56.symm
  have hl5 : o5.length ≤ out.length := by
    have := congrArg List.length h5
    rw [List.length_map] at this
    have h7 := (tk_sub (m := most) (L := out.map KV.p)).length_le
    rw [List.length_map] at h7
    omega
  have hz5 : ∀ e ∈ o5, e.k.length ≤ 2147483647 ∧ e.v.length ≤ 2147483647 := fun e he => by
    have h1 : e.p ∈ tk most (out.map KV.p) := by rw [← h5]; exact List.mem_map_of_mem he
    exact hsz _ (tk_sub.subset h1)
  clear h5 h6 hTv hrt hf
  refine sx ?_
  refine s_rwC (t := 16) (v' := .bool true) rfl (by simp) ?_
  refine s_ent (B2.ck :: stars oKVs o5 :: ol 51 x5 y5 o5 :: ol 51 x6 y6 o6 :: stars oKVs o6 :: G :: ol 53 wa wc ws :: H) (by exact entq) ?_
  refine s_loop (fun q : GpI => [(11, .pointer (some ⟨b11, 0, none⟩)), (12, .pointer (some ⟨b12, 0, none⟩)), (15, .bool true), (16, .bool true), (17, .bool true), (18, .slice x5 o5.length y5), (19, .slice x6 o6.length y6), (20, .bool true), (21, .int .i64 q.i)]) (fun q => q.B.ck :: stars oKVs (o5.drop q.i) :: ol 51 x5 y5 o5 :: ol 51 x6 y6 o6 :: stars oKVs o6 :: G :: ol 53 wa wc ws :: H) (fun q => q.i ≤ o5.length ∧ q.B.k = b11 ∧ Wd q.B (0 + 2 * out.length + 4 * out.length + 2 * q.i) wv vnl) (fun q => o5.length - q.i) ⟨0, B2⟩ ⟨Nat.zero_le _, k2, w2⟩ ?_ (he := Ent.refl)
  clear k1 k2 w1 w2
  rintro ⟨i, B⟩ ⟨h1, hk, hw⟩
  simp only at h1 hk hw ⊢
  refine sx ?_
  refine s_lif rfl (fun t1 => ?_) (fun t1 => ?_)
  · obtain ⟨e5, he5⟩ := get_lt o5 i (by omega)
    obtain ⟨e6, he6⟩ := get_lt o6 i (by omega)
    obtain ⟨hek, hev⟩ := pkv_eq h56 (get_map (f := KV.p) he5) (get_map (f := KV.p) he6)
    obtain ⟨z1, z2⟩ := hz5 e5 (List.mem_of_getElem? he5)
    have m6 := List.mem_of_getElem? he6
    refine sx ?_
    refine s_if rfl (fun t2 => ?_) (fun t2 => absurd (by omega) t2)
    have hd : o5.drop i = e5 :: o5.drop (i + 1) := by
      obtain ⟨h7, h8⟩ := List.getElem?_eq_some_iff.1 he5
      rw [List.drop_eq_getElem_cons h7, h8]
    refine s_ent (ob e5.ka e5.kc e5.k :: B.ck :: ob e5.va e5.vc e5.v :: stars oKVs (o5.drop (i + 1)) :: ol 51 x5 y5 o5 :: ol 51 x6 y6 o6 :: stars oKVs o6 :: G :: ol 53 wa wc ws :: H) ?_ ?_
    · rw [hd]
      refine Ent.trans (Ent.perm (.swap _ _ _)) (stars_cons.trans ?_)
      show Ent (ob e5.ka e5.kc e5.k :: ob e5.va e5.vc e5.v :: stars oKVs (o5.drop (i + 1)) :: B.ck :: _) _
      exact entq
    refine sx ?_
    refine s_drH (ol 51 x5 y5 o5 :: ol 51 x6 y6 o6 :: []) (.one true 0 (.one true 1 (.one true 2 (.one true 3 (.one true 4 (.one true 5 (.one true 6 (.one true 7 (.one true 8 (.one true 9 (.one true 10 (.one true 11 (.one true 12 (.one false 13 .nil)))))))))))))) mixed (by kernel_rfl) ?_ (he := by exact ent)
    refine sx ?_
    refine s_rw (t := 98) (v' := .pointer (some ⟨B.k, 0, none⟩)) rfl (by rw [hk]; rfl) ?_
    refine s_rw (t := 108) (v' := .slice e6.ka e5.k.length e6.kc) rfl (by rw [hek]) ?_
    refine s_call rfl (holdB_s (xs := e5.k) hw.ok (by omega) (by omega) (by rw [hek]; exact ((REe.st (H := []) m6).ent (by exact ent)).k)) ?_
    rintro _ _ ⟨B3, rfl, k3, sf3, ok3, -, -⟩
    refine ⟨chk_held (by exact ent), ?_⟩
    refine sx ?_
    refine s_drH (ol 51 x5 y5 o5 :: ol 51 x6 y6 o6 :: []) (.one true 0 (.one true 1 (.one true 2 (.one true 3 (.one true 4 (.one true 5 (.one true 6 (.one true 7 (.one true 8 (.one true 9 (.one true 10 (.one true 11 (.one true 12 (.one false 13 .nil)))))))))))))) mixed (by kernel_rfl) ?_ (he := by exact ent)
    refine sx ?_
    refine s_rw (t := 112) (v' := .pointer (some ⟨B3.k, 0, none⟩)) rfl (by rw [k3, hk]; rfl) ?_
    refine s_rw (t := 122) (v' := .slice e6.va e5.v.length e6.vc) rfl (by rw [hev]) ?_
    refine s_entL (ob e5.va e5.vc e5.v :: B3.ck :: stars oKVs (o5.drop (i + 1)) :: ol 51 x5 y5 o5 :: ol 51 x6 y6 o6 :: stars oKVs o6 :: G :: ol 53 wa wc ws :: H) (by exact entq) ?_
    refine s_call rfl (holdB_s (xs := e5.v) ok3 (by omega) (by omega) (by rw [hev]; exact ((REe.st (H := []) m6).ent (by exact ent)).v)) ?_
    rintro _ _ ⟨B4, rfl, k4, sf4, ok4, -, -⟩
    refine ⟨chk_held (by exact ent), ?_⟩
    refine sx ?_
    refine s_again ⟨i + 1, B4⟩ ⟨by simp only; omega, by show B4.k = b11; rw [k4, k3, hk], ⟨?_, ?_⟩⟩ (by simp only; omega) (he := Ent.refl)
    · show B4.Ok (0 + 2 * out.length + 4 * out.length + 2 * (i + 1))
      exact ⟨ok4.same, by have := ok4.len; omega, ok4.small⟩
    · obtain ⟨n, hn⟩ := hw.sf
      exact ⟨n, by show B4.sf = _; rw [sf4, sf3, hn]⟩
  obtain rfl : i = o5.length := by omega
  refine sx ?_
  refine s_entL (tlk b12 ma mc o1.length 0 :: ol 51 ma mc o1 :: stars oKVs o1 :: stars exL ws :: .star D :: B.ck :: ol 53 wa wc ws :: H) (Ent.trans (H' := G :: B.ck :: ol 53 wa wc ws :: H) (by exact entq) (hGo _)) ?_
  refine s_exL fun q2 => ?_
  refine sx ?_
  obtain ⟨ok4, nn, sf4⟩ := hw
  obtain ⟨K4, sf4', la4, lc4, l4, va4, vc4, ws4⟩ := B
  simp only at hk sf4
  subst hk
  subst sf4
  subst hwv
  have hlen4 := ok4.len
  simp only at hlen4
  refine s_ent (.hb K4 34 (.slice la4 l4.length lc4 :: .slice va4 ws4.length vc4 :: [.slice wa ws.length wc, vnl, .int .i64 nn]) :: ol 53 wa wc ws :: stars exL ws :: ol 49 la4 lc4 l4 :: fam 5 l4 :: ol 9 va4 vc4 ws4 :: H) ?_ ?_
  · refine Ent.trans (H' := (Ob.ck ⟨K4, [.slice wa ws.length wc, vnl, .int .i64 nn], la4, lc4, l4, va4, vc4, ws4⟩) :: ol 53 wa wc ws :: stars exL ws :: H) (by exact entq) ?_
    refine Ent.open ?_
    show Ent (.hb K4 34 (.slice la4 l4.length lc4 :: .slice va4 ws4.length vc4 :: [.slice wa ws.length wc, vnl, .int .i64 nn]) :: ol 49 la4 lc4 l4 :: ol 9 va4 vc4 ws4 :: fam 5 l4 :: ol 53 wa wc ws :: stars exL ws :: H) _
    exact entq
  -- what was noted
  refine s_loop (fun i : Nat => [(11, .pointer (some ⟨K4, 0, none⟩)), (23, .int .i64 i)]) (fun i => .hb K4 34 (.slice la4 l4.length lc4 :: .slice va4 ws4.length vc4 :: [.slice wa ws.length wc, vnl, .int .i64 nn]) :: ol 53 wa wc ws :: stars exL (ws.drop i) :: ol 49 la4 lc4 l4 :: fam 5 l4 :: ol 9 va4 vc4 ws4 :: H) (fun i => i ≤ ws.length) (fun i => ws.length - i) 0 (Nat.zero_le _) ?_ (he := Ent.refl)
  intro i hi
  refine sx ?_
  refine s_if rfl (fun t1 => ?_) (fun t1 => ?_)
  · obtain ⟨p, hp⟩ := get_lt ws i (by omega)
    have hd : ws.drop i = p :: ws.drop (i + 1) := by
      obtain ⟨h7, h8⟩ := List.getElem?_eq_some_iff.1 hp
      rw [List.drop_eq_getElem_cons h7, h8]
    refine s_ent (exE p.b :: .hb K4 34 (.slice la4 l4.length lc4 :: .slice va4 ws4.length vc4 :: [.slice wa ws.length wc, vnl, .int .i64 nn]) :: ol 53 wa wc ws :: stars exL (ws.drop (i + 1)) :: ol 49 la4 lc4 l4 :: fam 5 l4 :: ol 9 va4 vc4 ws4 :: H) ?_ ?_
    · rw [hd]
      refine Ent.trans (H' := stars exL (p :: ws.drop (i + 1)) :: .hb K4 34 (.slice la4 l4.length lc4 :: .slice va4 ws4.length vc4 :: [.slice wa ws.length wc, vnl, .int .i64 nn]) :: ol 53 wa wc ws :: ol 49 la4 lc4 l4 :: fam 5 l4 :: ol 9 va4 vc4 ws4 :: H) (by exact entq) ?_
      refine stars_cons.trans ?_
      show Ent (exE p.b :: stars exL (ws.drop (i + 1)) :: _) _
      exact entq
    refine s_ex fun o => ?_
    have hrl : RSl w0 (exEc p.b o :: .hb K4 34 (.slice la4 l4.length lc4 :: .slice va4 ws4.length vc4 :: [.slice wa ws.length wc, vnl, .int .i64 nn]) :: ol 53 wa wc ws :: stars exL (ws.drop (i + 1)) :: ol 49 la4 lc4 l4 :: fam 5 l4 :: ol 9 va4 vc4 ws4 :: H) wa wc ws := RSl.hd.tl.tl
    refine sx ?_
    cases o
    · refine s_gT rfl (by simp) ?_
      refine sx ?_
      exact s_again (i + 1) (by omega) (by omega) (he := Ent.tl Ent.refl)
    · refine s_gF rfl (by simp) ?_
      refine sx ?_
      exact s_again (i + 1) (by omega) (by omega) (he := Ent.tl Ent.refl)
  obtain rfl : i = ws.length := by omega
  refine sx ?_
  refine s_rw (t := 180) (v' := .pointer (some ⟨K4, 0, none⟩)) rfl rfl ?_
  refine s_entL (.hb K4 34 (.slice la4 l4.length lc4 :: .slice va4 ws4.length vc4 :: [.slice wa ws.length wc, vnl, .int .i64 nn]) :: ol 49 la4 lc4 l4 :: fam 5 l4 :: ol 9 va4 vc4 ws4 :: H) (by exact entq) ?_
  refine s_call rfl (bends_s (by omega) ok4.small ok4.same) ?_
  rintro _ _ ⟨rfl, rfl⟩
  refine ⟨chk_seq, ?_⟩
  refine sx ?_
  exact s_ret1 rfl rfl ⟨rfl, rfl⟩
end Go.Sx

