/- Part of a proof: a union tells. -/
import Derived.Test.YtpnhoafmlhlfgaaGreatCMDj
namespace Go.Sx
open Go Go.Proofs
set_option maxRecDepth 10000
variable {w0 : World} {H : List Ck}
/-- A head: its block, what is left, the list that it was. -/
structure Hdd where
  b : Nat
  a : Option Addr
  c : Nat
  rs : List KV
  oa : Option Addr
  oc : Nat
  os : List KV
@[reducible] def hdL (h : Hdd) : List Ck := [.hb h.b 119 [.slice h.a h.rs.length h.c], ol 51 h.oa h.oc h.os]
@[reducible] def Hdd.p (h : Hdd) : Pb := ⟨h.b⟩
def Hdd.Ok (w0 : World) (h : Hdd) : Prop := RSl w0 [ol 51 h.oa h.oc h.os] h.a h.c h.rs
def Hdd.l (h : Hdd) : List Pp := h.rs.map KV.p
@[reducible] def uG (b : Nat) (a : Option Addr) (c : Nat) (fs : List Fu) (G : Ck) : Ck := .star [.hb b 67 [.slice a fs.length c], ol 40 a c fs, G]
structure UnI where
  i : Nat
  a : Option Addr
  c : Nat
  hs : List Hdd
structure UnJ where
  i : Nat
  K : List Ck
  hs : List Hdd
theorem set_step {α : Type} {g : α → α} {F : List α} {j : Nat} {x : α} (h : F[j]? = some x) : ((F.take j).map g ++ F.drop j).set j (g x) = (F.take (j + 1)).map g ++ F.drop (j + 1) := by
  have hj := (List.getElem?_eq_some_iff.1 h).1
  have hm : ((F.take j).map g).length = j := by simp [Nat.min_eq_left (Nat.le_of_lt hj)]
  rw [List.set_append, if_neg (by omega), hm, Nat.sub_self, dropG h, snocT h]
  simp
structure UnC where
  a : Option Addr
  c : Nat
  rs : List KV
structure UnS where
  j : Nat
  hs : List Hdd
@[reducible] def bagL (hs : List Hdd) : Ck := stars oKVs (hs.map Hdd.rs).flatten
theorem set_same {α : Type} {l : List α} {i : Nat} {x : α} (h : l[i]? = some x) : l.set i x = l := by
  obtain ⟨hi, rfl⟩ := List.getElem?_eq_some_iff.1 h
  exact List.set_getElem_self hi
def bp (hs : List Hdd) : Option Nat → Value
  | none => .pointer none
  | some x => match hs[x]? with
    | some h => .pointer (some ⟨h.b, 0, none⟩)
    | none => .pointer none
theorem bp_some {hs : List Hdd} {x : Nat} {h : Hdd} (hx : hs[x]? = some h) : bp hs (some x) = .pointer (some ⟨h.b, 0, none⟩) := by simp [bp, hx]
set_option maxHeartbeats 4000000 in
theorem union_tell {b c : Nat} {a : Option Addr} {fs : List Fu} {G : Ck} {ls : List (List Pp)} (hn : fs.length = ls.length) (hn2 : fs.length ≤ 549755813888) (ht : ∀ (i : Nat) (f : Fu) (l : List Pp), fs[i]? = some f → ls[i]? = some l → l.length ≤ 549755813888 ∧ SmL l ∧ ∃ o gm g2, TvS Tryz.prog w0 o G gm G g2 f.val l) :
    TellS Tryz.prog w0 true (uG b a c fs G) (fun _ => uG b a c fs G) (uG b a c fs G) (uG b a c fs G) 63 [.pointer (some ⟨b, 0, none⟩)] (unionL ls) := by
  intro ll φ fin hy K h0
  refine FnS.ent (H' := .hb b 67 [.slice a fs.length c] :: ol 40 a c fs :: G :: [.star K]) ?_ (Ent.open Ent.refl)
  refine fns_enter Tryz.func63 rfl rfl rfl ?_
  refine sx ?_
  refine s_loop (fun q : UnI => [(0, yv ll), (3, .slice q.a (q.hs.map Hdd.p).length q.c), (13, .slice a fs.length c), (14, .int .i64 fs.length), (15, .int .i64 q.i)]) (fun q => ol 117 q.a q.c (q.hs.map Hdd.p) :: stars hdL q.hs :: bagL q.hs :: .hb b 67 [.slice a fs.length c] :: ol 40 a c fs :: G :: [.star K]) (fun q => q.i ≤ fs.length ∧ q.hs.map Hdd.l = ls.take q.i ∧ ∀ h ∈ q.hs, h.Ok w0) (fun q => fs.length - q.i) ⟨0, none, 0, []⟩ ⟨Nat.zero_le _, by simp, by simp⟩ ?_ (he := Ent.nilS.trans (Ent.head (stars_nil.trans (Ent.head stars_nil))))
  rintro ⟨i, pa, pc, hs⟩ ⟨h1, h2, h3⟩
  simp only at h1 h2 h3 ⊢
  have hol : hs.length = i := by
    have := congrArg List.length h2
    simp only [List.length_map, List.length_take] at this
    omega
  refine sx ?_
  refine s_if rfl (fun t1 => ?_) (fun t1 => ?_)
  · obtain ⟨f, hf⟩ := get_lt fs i (by omega)
    obtain ⟨l, hl⟩ := get_lt ls i (by omega)
    obtain ⟨hll, hlsm, o, gm, g2, hT⟩ := ht i f l hf hl
    refine sx ?_
    refine s_call rfl ((all_s (most := -1) hT hll hlsm).ent (Ent.cons (by exact rm) Ent.refl)) ?_
    rintro _ _ ⟨ea, ec, out, rfl, ho, rfl⟩
    rw [tk_all] at ho
    refine ⟨chk_seq, ?_⟩
    rw [show allG (-1) l.length G G g2 = G by simp [allG]]
    refine sx ?_
    refine s_boxA (cs := [.slice ea out.length ec]) rfl fun bh => ?_
    refine sx ?_
    refine s_bsl [(⟨bh⟩ : Pb)] rfl rfl fun b24 => ?_
    refine s_app (xs := hs.map Hdd.p) (ys := [(⟨bh⟩ : Pb)]) ?_ (hby := by simp only [List.length_cons, List.length_nil, List.length_map]; omega)
    intro a4 c4
    rw [show hs.map Hdd.p ++ [(⟨bh⟩ : Pb)] = (hs ++ [(⟨bh, ea, ec, out, ea, ec, out⟩ : Hdd)]).map Hdd.p by simp]
    refine sx ?_
    refine s_again ⟨i + 1, a4, c4, hs ++ [⟨bh, ea, ec, out, ea, ec, out⟩]⟩ ⟨by simp only; omega, ?_, ?_⟩ (by simp only; omega) (he := ?_)
    · simp only [List.map_append]
      rw [h2, snocT hl, ← ho]
      rfl
    · intro h hh
      rcases List.mem_append.1 hh with hh | hh
      · exact h3 h hh
      · rw [List.mem_singleton.1 hh]
        exact RSl.hd
    · refine Ent.cons (by exact rm) ?_
      refine Ent.trans (H' := hdL ⟨bh, ea, ec, out, ea, ec, out⟩ ++ stars hdL hs :: stars oKVs out :: bagL hs :: .hb b 67 [.slice a fs.length c] :: ol 40 a c fs :: G :: [.star K]) (by exact ent) ?_
      refine Ent.trans stars_snoc (Ent.head ?_)
      show Ent _ (stars oKVs ((hs ++ [(⟨bh, ea, ec, out, ea, ec, out⟩ : Hdd)]).map Hdd.rs).flatten :: _)
      rw [show ((hs ++ [(⟨bh, ea, ec, out, ea, ec, out⟩ : Hdd)]).map Hdd.rs).flatten = (hs.map Hdd.rs).flatten ++ out by simp]
      exact (Ent.perm (.swap _ _ _)).trans stars_append'
  obtain rfl : i = fs.length := by omega
  rw [hn, List.take_length] at h2
  refine sx ?_
  obtain ⟨ps, hps⟩ : ∃ ps, ps = hs.map Hdd.p := ⟨_, rfl⟩
  rw [← hps]
  have hsml : ∀ e ∈ (hs.map Hdd.rs).flatten, e.k.length ≤ 140737488355328 := by
    intro e he
    obtain ⟨l, hl, hel⟩ := List.mem_flatten.1 he
    obtain ⟨h, hh, rfl⟩ := List.mem_map.1 hl
    have : h.l ∈ ls := by rw [← h2]; exact List.mem_map.2 ⟨h, hh, rfl⟩
    obtain ⟨k, hk⟩ := List.getElem?_of_mem this
    obtain ⟨g, hg⟩ := get_lt fs k (by have := (List.getElem?_eq_some_iff.1 hk).1; omega)
    exact ((ht k g _ hg hk).2.1 e.p (List.mem_map.2 ⟨e, hel, rfl⟩)).1
  have hpl : ps.length = fs.length := by rw [hps, List.length_map, hol]
  refine s_loop (fun q : UnJ => [(0, yv ll), (3, .slice pa ps.length pc)]) (fun q => ol 117 pa pc ps :: stars hdL q.hs :: bagL q.hs :: .star q.K :: [uG b a c fs G]) (fun q => q.i ≤ (unionL ls).length ∧ φ q.i q.K ∧ (unionL ls).drop q.i = unionL (q.hs.map Hdd.l) ∧ (∀ h ∈ q.hs, h.Ok w0) ∧ ps = q.hs.map Hdd.p ∧ ∀ e ∈ (q.hs.map Hdd.rs).flatten, e.k.length ≤ 140737488355328) (fun q => (unionL ls).length - q.i) ⟨0, K, hs⟩ ⟨Nat.zero_le _, h0, by rw [h2]; rfl, h3, hps, hsml⟩ ?_ (he := ?_)
  rotate_left
  · refine Ent.trans (H' := ol 117 pa pc ps :: stars hdL hs :: bagL hs :: .star K :: .hb b 67 [.slice a fs.length c] :: ol 40 a c fs :: [G]) (by exact entq) ?_
    exact Ent.head (Ent.head (Ent.head (Ent.head (Ent.star (L := [.hb b 67 [.slice a fs.length c], ol 40 a c fs, G]) Ent.refl))))
  clear hsml h3 h2 hol hps hs
  rintro ⟨i, K1, hs⟩ ⟨h1, h2, h3, h4, h5, h6⟩
  simp only at h1 h2 h3 h4 h5 h6 ⊢
  have hol : hs.length = ps.length := by rw [h5, List.length_map]
  refine sx ?_
  refine s_loop (fun q : Nat => [(0, yv ll), (3, .slice pa ps.length pc), (6, bp hs (bst (hs.map Hdd.l) q)), (27, .slice pa ps.length pc), (28, .int .i64 ps.length), (29, .int .i64 q)]) (fun q => ol 117 pa pc ps :: stars hdL hs :: bagL hs :: .star K1 :: [uG b a c fs G]) (fun q => q ≤ ps.length) (fun q => ps.length - q) 0 (Nat.zero_le _) ?_
  intro j hj
  refine sx ?_
  refine s_if rfl (fun t1 => ?_) (fun t1 => ?_)
  · obtain ⟨⟨hb, ha, hc, hrs, oa, oc, os⟩, hh⟩ := get_lt hs j (by omega)
    have hpj : ps[j]? = some (⟨hb⟩ : Pb) := by rw [h5]; exact get_map (f := Hdd.p) hh
    have hok := h4 _ (List.mem_of_getElem? hh)
    refine s_ent (hdL ⟨hb, ha, hc, hrs, oa, oc, os⟩ ++ stars hdL (hs.eraseIdx j) :: ol 117 pa pc ps :: bagL hs :: .star K1 :: [uG b a c fs G]) ((Ent.perm (.swap _ _ _)).trans ((stars_get hh).trans (by exact ent))) ?_
    refine sx ?_
    show SC _ _ _ _ _ _ _ (.hb hb 119 [.slice ha hrs.length hc] :: ol 51 oa oc os :: stars hdL (hs.eraseIdx j) :: ol 117 pa pc ps :: bagL hs :: .star K1 :: [uG b a c fs G])
    have hlj : (hs.map Hdd.l)[j]? = some (hrs.map KV.p) := get_map (f := Hdd.l) hh
    have hback : Ent (.hb hb 119 [.slice ha hrs.length hc] :: ol 51 oa oc os :: stars hdL (hs.eraseIdx j) :: ol 117 pa pc ps :: bagL hs :: .star K1 :: [uG b a c fs G]) (ol 117 pa pc ps :: stars hdL hs :: bagL hs :: .star K1 :: [uG b a c fs G]) := by
      have h := stars_put (f := hdL) (s := ⟨hb, ha, hc, hrs, oa, oc, os⟩) (H := ol 117 pa pc ps :: bagL hs :: .star K1 :: [uG b a c fs G]) (List.getElem?_eq_some_iff.1 hh).1
      rw [set_same hh] at h
      exact h.trans (Ent.perm (.swap _ _ _))
    cases hrs with
    | nil =>
      have hbst : bst (hs.map Hdd.l) (j + 1) = bst (hs.map Hdd.l) j := by simp only [bst, hlj]; rfl
      refine sx ?_; refine s_dr (.one true 0 (.one false 1 (.one true 2 (.one true 3 (.one true 4 (.one true 5 (.one true 6 (.one true 7 (.one true 8 (.one true 9 (.one true 10 (.one true 11 (.one true 12 (.one true 13 (.one true 14 (.one true 15 (.one true 16 (.one true 17 (.one true 18 (.one true 19 (.one false 20 (.one true 21 (.one true 22 (.one true 23 .nil)))))))))))))))))))))))) mixed (by kernel_rfl) ?_; refine sx ?_
      refine s_callV rfl hok_s ?_
      refine sx ?_
      refine s_rwQ (t := 6) (v' := bp hs (bst (hs.map Hdd.l) (j + 1))) rfl (by rw [hbst]) ?_
      exact s_again (j + 1) (by omega) (by omega) (he := hback)
    | cons e hrs =>
      have hrsl : RSl w0 (.hb hb 119 [.slice ha (e :: hrs).length hc] :: ol 51 oa oc os :: stars hdL (hs.eraseIdx j) :: ol 117 pa pc ps :: bagL hs :: .star K1 :: [uG b a c fs G]) ha hc (e :: hrs) := hok.ent (Ent.cons (by exact rm) Ent.nil)
      rcases hbn : bst (hs.map Hdd.l) j with _ | x
      · have hbst : bst (hs.map Hdd.l) (j + 1) = some j := by simp only [bst, hlj, hbn]; rfl
        refine sx ?_; refine s_dr (.one true 0 (.one false 1 (.one true 2 (.one true 3 (.one true 4 (.one true 5 (.one true 6 (.one true 7 (.one true 8 (.one true 9 (.one true 10 (.one true 11 (.one true 12 (.one true 13 (.one true 14 (.one true 15 (.one true 16 (.one true 17 (.one true 18 (.one true 19 (.one false 20 (.one true 21 (.one true 22 (.one true 23 .nil)))))))))))))))))))))))) mixed (by kernel_rfl) ?_; refine sx ?_
        refine s_callV rfl hok_s ?_
        refine s_rw (t := 34) (v' := .bool true) rfl (by simp) ?_
        refine s_rw (t := 6) (v' := .pointer none) rfl rfl ?_
        refine sx ?_
        refine s_rwQ (t := 6) (v' := bp hs (bst (hs.map Hdd.l) (j + 1))) rfl (by rw [hbst, bp_some hh]) ?_
        exact s_again (j + 1) (by omega) (by omega) (he := hback)
      · obtain ⟨hxj, p, r, hxp⟩ := bst_some hbn
        obtain ⟨⟨xb, xa, xc, xrs, ya, yc, ys⟩, hx⟩ := get_lt hs x (by omega)
        have hxl : (hs.map Hdd.l)[x]? = some (xrs.map KV.p) := get_map (f := Hdd.l) hx
        have hokx := h4 _ (List.mem_of_getElem? hx)
        rw [hxl] at hxp
        obtain ⟨f, xrs, rfl⟩ : ∃ f u, xrs = f :: u := by cases xrs with
          | nil => cases hxp
          | cons f u => exact ⟨f, u, rfl⟩
        have hkx : keyAt (hs.map Hdd.l) x = f.k := by simp only [keyAt, hxl]; rfl
        have hx' : (hs.eraseIdx j)[x]? = some (⟨xb, xa, xc, f :: xrs, ya, yc, ys⟩ : Hdd) := by rw [List.getElem?_eraseIdx_of_lt hxj]; exact hx
        have hback2 : Ent (.hb hb 119 [.slice ha (e :: hrs).length hc] :: ol 51 oa oc os :: .hb xb 119 [.slice xa (f :: xrs).length xc] :: ol 51 ya yc ys :: stars hdL ((hs.eraseIdx j).eraseIdx x) :: ol 117 pa pc ps :: bagL hs :: .star K1 :: [uG b a c fs G]) (.hb hb 119 [.slice ha (e :: hrs).length hc] :: ol 51 oa oc os :: stars hdL (hs.eraseIdx j) :: ol 117 pa pc ps :: bagL hs :: .star K1 :: [uG b a c fs G]) := by
          have h := stars_put (f := hdL) (s := ⟨xb, xa, xc, f :: xrs, ya, yc, ys⟩) (H := ol 117 pa pc ps :: bagL hs :: .star K1 :: [uG b a c fs G]) (List.getElem?_eq_some_iff.1 hx').1
          rw [set_same hx'] at h
          exact Ent.head (Ent.head h)
        refine s_ent _ (Ent.head (Ent.head (stars_get hx'))) ?_
        show SC _ _ _ _ _ _ _ (.hb hb 119 [.slice ha (e :: hrs).length hc] :: ol 51 oa oc os :: .hb xb 119 [.slice xa (f :: xrs).length xc] :: ol 51 ya yc ys :: stars hdL ((hs.eraseIdx j).eraseIdx x) :: ol 117 pa pc ps :: bagL hs :: .star K1 :: [uG b a c fs G])
        have hl1 : 1 ≤ (e :: hrs).length := by simp
        have hl2 : 1 ≤ (f :: xrs).length := by simp
        have heb : e ∈ (hs.map Hdd.rs).flatten := List.mem_flatten.2 ⟨e :: hrs, List.mem_map.2 ⟨_, List.mem_of_getElem? hh, rfl⟩, by simp⟩
        have hfb : f ∈ (hs.map Hdd.rs).flatten := List.mem_flatten.2 ⟨f :: xrs, List.mem_map.2 ⟨_, List.mem_of_getElem? hx, rfl⟩, by simp⟩
        have hek : RBy w0 (bagL hs :: .star K1 :: [uG b a c fs G]) e.ka e.kc e.k := (REe.st heb).k
        have hfk : RBy w0 (bagL hs :: .star K1 :: [uG b a c fs G]) f.ka f.kc f.k := (REe.st hfb).k
        have hrsl : RSl w0 (.hb hb 119 [.slice ha (e :: hrs).length hc] :: ol 51 oa oc os :: .hb xb 119 [.slice xa (f :: xrs).length xc] :: ol 51 ya yc ys :: stars hdL ((hs.eraseIdx j).eraseIdx x) :: ol 117 pa pc ps :: bagL hs :: .star K1 :: [uG b a c fs G]) ha hc (e :: hrs) := hok.ent (Ent.cons (by exact rm) Ent.nil)
        have hxsl : RSl w0 (.hb hb 119 [.slice ha (e :: hrs).length hc] :: ol 51 oa oc os :: .hb xb 119 [.slice xa (f :: xrs).length xc] :: ol 51 ya yc ys :: stars hdL ((hs.eraseIdx j).eraseIdx x) :: ol 117 pa pc ps :: bagL hs :: .star K1 :: [uG b a c fs G]) xa xc (f :: xrs) := hokx.ent (Ent.cons (by exact rm) Ent.nil)
        refine sx ?_; refine s_dr (.one true 0 (.one false 1 (.one true 2 (.one true 3 (.one true 4 (.one true 5 (.one true 6 (.one true 7 (.one true 8 (.one true 9 (.one true 10 (.one true 11 (.one true 12 (.one true 13 (.one true 14 (.one true 15 (.one true 16 (.one true 17 (.one true 18 (.one true 19 (.one false 20 (.one true 21 (.one true 22 (.one true 23 .nil)))))))))))))))))))))))) mixed (by kernel_rfl) ?_; refine sx ?_
        refine s_callV rfl hok_s ?_
        refine s_rw (t := 34) (v' := .bool true) rfl (by simp) ?_
        refine s_rw (t := 6) (v' := .pointer (some ⟨xb, 0, none⟩)) rfl (bp_some hx) ?_
        refine sx ?_
        refine s_callV rfl (compare_s (xs := e.k) (ys := f.k) (by exact rby) (by exact rby)) ?_
        refine sx ?_
        refine s_if rfl (fun t2 => ?_) (fun t2 => ?_)
        · have hbst : bst (hs.map Hdd.l) (j + 1) = some j := by
            simp only [bst, hlj, hbn, hkx]
            exact if_pos t2
          refine sx ?_
          refine s_rwQ (t := 6) (v' := bp hs (bst (hs.map Hdd.l) (j + 1))) rfl (by rw [hbst, bp_some hh]) ?_
          exact s_again (j + 1) (by omega) (by omega) (he := hback2.trans hback)
        · have hbst : bst (hs.map Hdd.l) (j + 1) = some x := by
            simp only [bst, hlj, hbn, hkx]
            exact if_neg t2
          refine sx ?_
          refine s_rwQ (t := 6) (v' := bp hs (bst (hs.map Hdd.l) (j + 1))) rfl (by rw [hbst, bp_some hx]) ?_
          exact s_again (j + 1) (by omega) (by omega) (he := hback2.trans hback)
  obtain rfl : j = ps.length := by omega
  have hbl : (hs.map Hdd.l).length = ps.length := by rw [List.length_map, hol]
  rcases hbn : bst (hs.map Hdd.l) ps.length with _ | x
  · refine sx ?_
    rw [unionL_none (ls := hs.map Hdd.l) (by rw [hbl]; exact hbn), List.drop_eq_nil_iff] at h3
    obtain rfl : i = (unionL ls).length := by omega
    exact s_ret0 rfl ⟨rfl, K1, .inl ⟨h2, rfl⟩⟩
  · obtain ⟨hxj, p, r, hxp⟩ := bst_some hbn
    obtain ⟨⟨xb, xa, xc, xrs, ya, yc, ys⟩, hx⟩ := get_lt hs x (by omega)
    have hxl : (hs.map Hdd.l)[x]? = some (xrs.map KV.p) := get_map (f := Hdd.l) hx
    have hokx := h4 _ (List.mem_of_getElem? hx)
    rw [hxl] at hxp
    obtain ⟨f, xrs, rfl⟩ : ∃ f u, xrs = f :: u := by cases xrs with
      | nil => cases hxp
      | cons f u => exact ⟨f, u, rfl⟩
    have hun := unionL_some (ls := hs.map Hdd.l) (by rw [hbl]; exact hbn) hxl
    rw [bp_some hx]
    have hback : Ent (.hb xb 119 [.slice xa (f :: xrs).length xc] :: ol 51 ya yc ys :: stars hdL (hs.eraseIdx x) :: ol 117 pa pc ps :: bagL hs :: .star K1 :: [uG b a c fs G]) (ol 117 pa pc ps :: stars hdL hs :: bagL hs :: .star K1 :: [uG b a c fs G]) := by
      have h := stars_put (f := hdL) (s := ⟨xb, xa, xc, f :: xrs, ya, yc, ys⟩) (H := ol 117 pa pc ps :: bagL hs :: .star K1 :: [uG b a c fs G]) (List.getElem?_eq_some_iff.1 hx).1
      rw [set_same hx] at h
      exact h.trans (Ent.perm (.swap _ _ _))
    refine s_ent (hdL ⟨xb, xa, xc, f :: xrs, ya, yc, ys⟩ ++ stars hdL (hs.eraseIdx x) :: ol 117 pa pc ps :: bagL hs :: .star K1 :: [uG b a c fs G]) ((Ent.perm (.swap _ _ _)).trans ((stars_get hx).trans (by exact ent))) ?_
    show SC _ _ _ _ _ _ _ (.hb xb 119 [.slice xa (f :: xrs).length xc] :: ol 51 ya yc ys :: stars hdL (hs.eraseIdx x) :: ol 117 pa pc ps :: bagL hs :: .star K1 :: [uG b a c fs G])
    have hl2 : 1 ≤ (f :: xrs).length := by simp
    have hfb : f ∈ (hs.map Hdd.rs).flatten := List.mem_flatten.2 ⟨f :: xrs, List.mem_map.2 ⟨_, List.mem_of_getElem? hx, rfl⟩, by simp⟩
    have hfk : RBy w0 (bagL hs :: .star K1 :: [uG b a c fs G]) f.ka f.kc f.k := (REe.st hfb).k
    have hxsl : RSl w0 (.hb xb 119 [.slice xa (f :: xrs).length xc] :: ol 51 ya yc ys :: stars hdL (hs.eraseIdx x) :: ol 117 pa pc ps :: bagL hs :: .star K1 :: [uG b a c fs G]) xa xc (f :: xrs) := hokx.ent (Ent.cons (by exact rm) Ent.nil)
    refine sx ?_
    refine s_alloc fun b9 => ?_
    refine sx ?_
    refine s_call rfl (copied_s (xs := f.k) (by exact rby) (h6 f hfb)) ?_
    rintro _ _ ⟨ka, rfl, rfl⟩
    refine ⟨chk_seq, ?_⟩
    refine sx ?_
    refine s_loop (fun q : UnS => [(0, yv ll), (3, .slice pa ps.length pc), (9, .pointer (some ⟨b9, 0, none⟩)), (10, .slice ka f.k.length f.k.length), (70, .slice pa ps.length pc), (71, .int .i64 ps.length), (72, .int .i64 q.j)]) (fun q => ob ka f.k.length f.k :: .hb b9 51 (Cel.f f) :: ol 117 pa pc ps :: stars hdL q.hs :: bagL hs :: .star K1 :: [uG b a c fs G]) (fun q => q.j ≤ ps.length ∧ q.hs.map Hdd.rs = ((hs.map Hdd.rs).take q.j).map (skpK f.k) ++ (hs.map Hdd.rs).drop q.j ∧ (∀ h ∈ q.hs, h.Ok w0) ∧ ps = q.hs.map Hdd.p) (fun q => ps.length - q.j) ⟨0, hs⟩ ⟨Nat.zero_le _, by simp, h4, h5⟩ ?_ (he := ?_)
    rotate_left
    · refine Ent.cons (by exact rm) (Ent.cons (by exact rm) ?_)
      exact hback
    rintro ⟨j, hs'⟩ ⟨g1, g2, g3, g4⟩
    simp only at g1 g2 g3 g4 ⊢
    have gol : hs'.length = ps.length := by rw [g4, List.length_map]
    refine sx ?_
    refine s_if rfl (fun t1 => ?_) (fun t1 => ?_)
    · obtain ⟨⟨hb, ha, hc, hrs, oa, oc, os⟩, hh⟩ := get_lt hs' j (by omega)
      have hpj : ps[j]? = some (⟨hb⟩ : Pb) := by rw [g4]; exact get_map (f := Hdd.p) hh
      have hok := g3 _ (List.mem_of_getElem? hh)
      have hrj : (hs.map Hdd.rs)[j]? = some hrs := by
        have h := get_map (f := Hdd.rs) hh
        rw [g2, List.getElem?_append_right (by simp; omega)] at h
        simpa [List.length_take, Nat.min_eq_left (show j ≤ hs.length by omega)] using h
      have hfin : ∀ a' c', RSl w0 [ol 51 oa oc os] a' c' (skpK f.k hrs) → ∃ q : UnS, q.j = j + 1 ∧ (q.j ≤ ps.length ∧ q.hs.map Hdd.rs = ((hs.map Hdd.rs).take q.j).map (skpK f.k) ++ (hs.map Hdd.rs).drop q.j ∧ (∀ h ∈ q.hs, h.Ok w0) ∧ ps = q.hs.map Hdd.p) ∧
          Ent (.hb hb 119 [.slice a' (skpK f.k hrs).length c'] :: ol 51 oa oc os :: stars hdL (hs'.eraseIdx j) :: ob ka f.k.length f.k :: .hb b9 51 (Cel.f f) :: ol 117 pa pc ps :: bagL hs :: .star K1 :: [uG b a c fs G])
            (ob ka f.k.length f.k :: .hb b9 51 (Cel.f f) :: ol 117 pa pc ps :: stars hdL q.hs :: bagL hs :: .star K1 :: [uG b a c fs G]) := by
        intro a' c' hk
        refine ⟨⟨j + 1, hs'.set j ⟨hb, a', c', skpK f.k hrs, oa, oc, os⟩⟩, rfl, ⟨by simp only; omega, ?_, ?_, ?_⟩, ?_⟩
        · simp only [List.map_set]
          rw [g2]
          exact set_step hrj
        · intro h hm
          rcases List.mem_or_eq_of_mem_set hm with hm | rfl
          · exact g3 h hm
          · exact hk
        · simp only [List.map_set]
          rw [← g4]
          exact (set_same hpj).symm
        · have h := stars_put (f := hdL) (s := ⟨hb, a', c', skpK f.k hrs, oa, oc, os⟩) (H := ob ka f.k.length f.k :: .hb b9 51 (Cel.f f) :: ol 117 pa pc ps :: bagL hs :: .star K1 :: [uG b a c fs G]) (List.getElem?_eq_some_iff.1 hh).1
          exact h.trans (by exact entq)
      refine sx ?_
      refine s_loop (fun q : UnC => [(0, yv ll), (3, .slice pa ps.length pc), (9, .pointer (some ⟨b9, 0, none⟩)), (10, .slice ka f.k.length f.k.length), (12, .pointer (some ⟨hb, 0, none⟩)), (70, .slice pa ps.length pc), (71, .int .i64 ps.length), (72, .int .i64 j)]) (fun q => .hb hb 119 [.slice q.a q.rs.length q.c] :: ol 51 oa oc os :: stars hdL (hs'.eraseIdx j) :: ob ka f.k.length f.k :: .hb b9 51 (Cel.f f) :: ol 117 pa pc ps :: bagL hs :: .star K1 :: [uG b a c fs G]) (fun q => RSl w0 [ol 51 oa oc os] q.a q.c q.rs ∧ skpK f.k q.rs = skpK f.k hrs ∧ ∀ x ∈ q.rs, x ∈ hrs) (fun q => q.rs.length) ⟨ha, hc, hrs⟩ ⟨hok, rfl, fun x h => h⟩ ?_ (he := ?_)
      rotate_left
      · refine Ent.trans (H' := stars hdL hs' :: ob ka f.k.length f.k :: .hb b9 51 (Cel.f f) :: ol 117 pa pc ps :: bagL hs :: .star K1 :: [uG b a c fs G]) (by exact entq) ?_
        exact (stars_get hh)
      rintro ⟨ca, cc, crs⟩ ⟨c1, c2, c3⟩
      simp only at c1 c2 c3 ⊢
      cases crs with
      | nil =>
        refine sx ?_
        refine s_callV rfl hok_s ?_
        refine sx ?_
        have hn : skpK f.k hrs = [] := c2.symm
        obtain ⟨⟨j', hs2⟩, rfl, hφ, hE⟩ := hfin ca cc (by rw [hn]; exact c1)
        rw [hn] at hE
        exact s_again ⟨j + 1, hs2⟩ hφ (by simp only; omega) (he := hE)
      | cons e r =>
        have hl1 : 1 ≤ (e :: r).length := by simp
        have heb : e ∈ (hs.map Hdd.rs).flatten := List.mem_flatten.2 ⟨hrs, List.mem_of_getElem? hrj, c3 e (by simp)⟩
        have hek : RBy w0 (bagL hs :: .star K1 :: [uG b a c fs G]) e.ka e.kc e.k := (REe.st heb).k
        have hrsl : RSl w0 (.hb hb 119 [.slice ca (e :: r).length cc] :: ol 51 oa oc os :: stars hdL (hs'.eraseIdx j) :: ob ka f.k.length f.k :: .hb b9 51 (Cel.f f) :: ol 117 pa pc ps :: bagL hs :: .star K1 :: [uG b a c fs G]) ca cc (e :: r) := c1.ent (Ent.cons (by exact rm) Ent.nil)
        refine sx ?_
        refine s_callV rfl hok_s ?_
        refine s_rw (t := 77) (v' := .bool true) rfl (by simp) ?_
        refine sx ?_
        refine s_callV rfl (compare_s (xs := e.k) (ys := f.k) (by exact rby) (by exact rby)) ?_
        refine sx ?_
        refine s_if rfl (fun t2 => ?_) (fun t2 => ?_)
        · refine sx ?_
          refine s_call rfl (hstep_s (es := r) (c1.ent (Ent.cons (by exact rm) Ent.nil))) ?_
          rintro _ _ ⟨rfl, rfl⟩
          refine ⟨chk_seq, ?_⟩
          refine sx ?_
          refine s_again ⟨sl ca cc 1 2, cc - 1, r⟩ ⟨c1.drop (j := 1) (by simp), ?_, fun x h => c3 x (List.mem_cons_of_mem _ h)⟩ (by simp)
          rw [← c2, skpK_go t2]
        · refine sx ?_
          have hn : skpK f.k hrs = e :: r := by rw [← c2, skpK_no t2]
          obtain ⟨⟨j', hs2⟩, rfl, hφ, hE⟩ := hfin ca cc (by rw [hn]; exact c1)
          rw [hn] at hE
          exact s_again ⟨j + 1, hs2⟩ hφ (by simp only; omega) (he := hE)
    · obtain rfl : j = ps.length := by omega
      have g5 : hs'.map Hdd.rs = (hs.map Hdd.rs).map (skpK f.k) := by
        rw [g2, List.take_of_length_le (by simp; omega), List.drop_of_length_le (by simp; omega), List.append_nil]
      obtain ⟨FG, hG1, hG2⟩ := flat_told (F := hs.map Hdd.rs) (b := x) (get_map (f := Hdd.rs) hx)
      rw [← g5] at hG2
      have hi : (unionL ls)[i]? = some f.p := by
        have h := List.getElem?_drop (xs := unionL ls) (i := i) (j := 0)
        rw [h3, hun] at h
        simpa using h.symm
      have hil := (List.getElem?_eq_some_iff.1 hi).1
      refine s_ent (ob f.ka f.kc f.k :: ob f.va f.vc f.v :: bagL hs' :: .hb b9 51 (Cel.f f) :: ol 117 pa pc ps :: stars hdL hs' :: .star K1 :: [uG b a c fs G]) ?_ ?_
      · refine Ent.trans (H' := bagL hs :: .hb b9 51 (Cel.f f) :: ol 117 pa pc ps :: stars hdL hs' :: .star K1 :: [uG b a c fs G]) (by exact entq) ?_
        refine (stars_perm hG1).trans ?_
        refine stars_cons.trans ?_
        exact Ent.head (Ent.head (stars_sub hG2))
      refine sx ?_
      have hnx : (unionL ls).drop (i + 1) = unionL (hs'.map Hdd.l) := by
        have e1 : hs'.map Hdd.l = (hs.map Hdd.l).map (skp f.k) := by
          have : hs'.map Hdd.l = (hs'.map Hdd.rs).map (fun l => l.map KV.p) := by rw [List.map_map]; rfl
          rw [this, g5, List.map_map, List.map_map, List.map_map]
          exact List.map_congr_left fun h _ => skpK_p f.k h.rs
        rw [e1, ← List.drop_drop, h3, hun]
        rfl
      have hsm' : ∀ e ∈ (hs'.map Hdd.rs).flatten, e.k.length ≤ 140737488355328 := fun e he => h6 e (hG1.mem_iff.2 (List.mem_cons_of_mem _ (hG2.subset he)))
      refine s_yld rfl rfl ((hy i f 0 K1 _ [bagL hs', .hb b9 51 (Cel.f f), ol 117 pa pc ps, stars hdL hs'] hi h2 (fun _ => rfl) REe.of).ent ?_) ?_
      · refine ent_oKVs (by exact rm) (by exact rm) ?_
        exact entq
      rintro _ _ ⟨K2, hK2, rfl⟩
      refine ⟨chk_seq, ?_⟩
      rcases hK2 with ⟨rfl, hK2⟩ | ⟨rfl, hK2⟩
      · refine sx ?_
        exact s_again ⟨i + 1, K2, hs'⟩ ⟨by simp only; omega, hK2, hnx, g3, g4, hsm'⟩ (by simp only; omega)
      · refine sx ?_
        exact s_ret0 rfl ⟨rfl, K2, .inr ⟨hK2, rfl⟩⟩
end Go.Sx

