/- Part of a proof: one call of a script. -/
import Derived.Test.YtceandgmpcpmfaaCDH
namespace Go.Sx
open Go Go.Proofs
set_option maxRecDepth 10000
variable {w0 : World} {H : List Ck}
/-- One call. -/
structure DOp where
  k : Int
  on : Int
  x : Lf
  sa : Option Addr
  sc : Nat
  ss : List U64
  g : Int
@[reducible] def DOp.cells (o : DOp) : List Value := [.int .i64 o.k, .int .i64 o.on, .int .i64 o.x.p, .int .u64 o.x.b, .int .u64 o.x.d, .slice o.sa o.ss.length o.sc, .int .u64 o.g]
instance : Cel DOp := ⟨7, DOp.cells, fun _ => rfl, fun _ => rfl, by decide⟩
/-- One list: the program's, the document's. -/
structure DL where
  d : Nat
  r : Nat
  a : Option Addr
  c : Nat
  b : Option Addr
  e : Nat
  xs : List Lf
@[reducible] def DL.pd (L : DL) : PB := ⟨L.d⟩
@[reducible] def DL.pr (L : DL) : PB := ⟨L.r⟩
@[reducible] def oDL (L : DL) : List Ck := [.hb L.d 63 [.slice L.a L.xs.length L.c], ol 34 L.a L.c L.xs, .hb L.r 73 [.slice L.b L.xs.length L.e], ol 34 L.b L.e L.xs]
/-- All that a script has. -/
structure DW where
  la : Option Addr
  lc : Nat
  ra : Option Addr
  rc : Nat
  ls : List DL
  pa : Option Addr
  pc : Nat
  p : List SIn
  qa : Option Addr
  qc : Nat
  q : List SIn
  xa : Option Addr
  xc : Nat
  x : List SLf
  ya : Option Addr
  yc : Nat
  y : List SLf
  n : Int
@[reducible] def dW (W : Nat) (S : DW) (H : List Ck) : List Ck := .hb W 30 [.slice S.la (S.ls.map DL.pd).length S.lc, .slice S.ra (S.ls.map DL.pr).length S.rc, .slice S.pa S.p.length S.pc, .slice S.qa S.q.length S.qc, .slice S.xa S.x.length S.xc, .slice S.ya S.y.length S.yc, .int .i64 S.n] :: Ck.star [ol 40 S.la S.lc (S.ls.map DL.pd), ol 58 S.ra S.rc (S.ls.map DL.pr)] :: Ck.star [ol 47 S.pa S.pc S.p, ol 47 S.qa S.qc S.q, fam 3 S.p, fam 3 S.q] :: Ck.star [ol 39 S.xa S.xc S.x, ol 39 S.ya S.yc S.y, fam 34 S.x, fam 34 S.y] :: stars oDL S.ls :: H
structure DW.Ok (S : DW) (M : Nat) : Prop where
  srt : ∀ L ∈ S.ls, Srt L.xs ∧ L.xs.length ≤ M
  pq : S.p.map SIn.xs = S.q.map SIn.xs
  xy : S.x.map SLf.xs = S.y.map SLf.xs
  rp : ∀ s ∈ S.p, s.xs.length ≤ M
  rx : ∀ s ∈ S.x, s.xs.length ≤ M
/-- How many things came out. -/
abbrev DW.out (S : DW) : Nat := S.p.length + S.x.length
/-- What a call leaves. -/
abbrev StepR (W : Nat) (S : DW) (M : Nat) (o : DOp) (H : List Ck) : Value → List Ck → Prop := fun v H' => v = .bool true ∧ ∃ S' : DW, S'.Ok (M + 1) ∧ (o.k = 1 → S'.ls.length = S.ls.length + 1 ∧ S'.out = S.out) ∧ (o.k ≠ 1 → S'.ls.length = S.ls.length ∧ S'.out ≤ S.out + 2) ∧ H' = dW W S' H
theorem map_set_same {β γ : Type} {f : β → γ} {F : List β} {k : Nat} {x y : β} (h : F[k]? = some x) (e : f y = f x) : (F.set k y).map f = F.map f := by
  apply List.ext_getElem?
  intro i
  rw [List.getElem?_map, List.getElem?_map, List.getElem?_set]
  split
  · rename_i hi
    subst hi
    rw [h]
    split
    · simp [e]
    · rename_i hn
      have := (List.getElem?_eq_some_iff.1 h).1
      omega
  · rfl
theorem putV_len (xs : List Lf) (x : Lf) : (putV xs x).length ≤ xs.length + 1 := by
  unfold putV
  split
  · have := (ins_perm (xs := xs) (x := x)).length_eq
    simp only [List.length_cons] at this
    omega
  · omega
theorem rcountR_s {d n c : Nat} {a : Option Addr} (hd : RcH w0 H d [.slice a n c]) : FnV Try.prog w0 H 29 #[.pointer (some ⟨d, 0, none⟩)] (.int .i64 n) := by
  refine fns_enter Try.func29 rfl rfl rfl ?_
  refine sx ?_
  refine s_yS rfl rfl rfl (y_ld rfl (Rc.hbS hd rfl)) ?_
  refine sx ?_
  exact s_ret1 rfl rfl ⟨rfl, rfl⟩
theorem DW.Ok.set {S : DW} {M k : Nat} {L' : DL} (h : S.Ok M) (h' : Srt L'.xs ∧ L'.xs.length ≤ M + 1) : ∀ L ∈ S.ls.set k L', Srt L.xs ∧ L.xs.length ≤ M + 1 := by
  refine fun L hL => ?_
  rcases List.mem_or_eq_of_mem_set hL with h1 | h1
  · exact ⟨(h.srt L h1).1, by have := (h.srt L h1).2; omega⟩
  · rw [h1]; exact h'
theorem dW_put {W k : Nat} {S : DW} {L L' : DL} (hk : S.ls[k]? = some L) (hd : L'.d = L.d) (hr : L'.r = L.r) : Ent (.hb L'.d 63 [.slice L'.a L'.xs.length L'.c] :: ol 34 L'.a L'.c L'.xs :: .hb L'.r 73 [.slice L'.b L'.xs.length L'.e] :: ol 34 L'.b L'.e L'.xs :: .hb W 30 [.slice S.la (S.ls.map DL.pd).length S.lc, .slice S.ra (S.ls.map DL.pr).length S.rc, .slice S.pa S.p.length S.pc, .slice S.qa S.q.length S.qc, .slice S.xa S.x.length S.xc, .slice S.ya S.y.length S.yc, .int .i64 S.n] :: Ck.star [ol 40 S.la S.lc (S.ls.map DL.pd), ol 58 S.ra S.rc (S.ls.map DL.pr)] :: Ck.star [ol 47 S.pa S.pc S.p, ol 47 S.qa S.qc S.q, fam 3 S.p, fam 3 S.q] :: Ck.star [ol 39 S.xa S.xc S.x, ol 39 S.ya S.yc S.y, fam 34 S.x, fam 34 S.y] :: stars oDL (S.ls.eraseIdx k) :: H) (dW W { S with ls := S.ls.set k L' } H) := by
  have e1 : (S.ls.set k L').map DL.pd = S.ls.map DL.pd := map_set_same hk (by rw [DL.pd, DL.pd, hd])
  have e2 : (S.ls.set k L').map DL.pr = S.ls.map DL.pr := map_set_same hk (by rw [DL.pr, DL.pr, hr])
  have hlt := (List.getElem?_eq_some_iff.1 hk).1
  unfold dW
  simp only [e1, e2]
  refine Ent.trans (H' := .hb W 30 [.slice S.la (S.ls.map DL.pd).length S.lc, .slice S.ra (S.ls.map DL.pr).length S.rc, .slice S.pa S.p.length S.pc, .slice S.qa S.q.length S.qc, .slice S.xa S.x.length S.xc, .slice S.ya S.y.length S.yc, .int .i64 S.n] :: Ck.star [ol 40 S.la S.lc (S.ls.map DL.pd), ol 58 S.ra S.rc (S.ls.map DL.pr)] :: Ck.star [ol 47 S.pa S.pc S.p, ol 47 S.qa S.qc S.q, fam 3 S.p, fam 3 S.q] :: Ck.star [ol 39 S.xa S.xc S.x, ol 39 S.ya S.yc S.y, fam 34 S.x, fam 34 S.y] :: (oDL L' ++ stars oDL (S.ls.eraseIdx k) :: H)) ?_ (Ent.head (Ent.head (Ent.head (Ent.head (stars_put hlt)))))
  refine Ent.cons (by first | exact rmq | exact rm) (Ent.cons (by first | exact rmq | exact rm) (Ent.cons (by first | exact rmq | exact rm) (Ent.cons (by first | exact rmq | exact rm) ?_)))
  exact Ent.refl
theorem dW_pq {W k pc' qc' : Nat} {S : DW} {L L' : DL} {pa' qa' : Option Addr} {ps qs : List SIn} {n' : Int} (hk : S.ls[k]? = some L) (hd : L'.d = L.d) (hr : L'.r = L.r) :
    Ent (.hb L'.d 63 [.slice L'.a L'.xs.length L'.c] :: ol 34 L'.a L'.c L'.xs :: .hb L'.r 73 [.slice L'.b L'.xs.length L'.e] :: ol 34 L'.b L'.e L'.xs :: .hb W 30 [.slice S.la (S.ls.map DL.pd).length S.lc, .slice S.ra (S.ls.map DL.pr).length S.rc, .slice pa' (S.p ++ ps).length pc', .slice qa' (S.q ++ qs).length qc', .slice S.xa S.x.length S.xc, .slice S.ya S.y.length S.yc, .int .i64 n'] :: ol 47 pa' pc' (S.p ++ ps) :: ol 47 qa' qc' (S.q ++ qs) :: fam 3 ps :: fam 3 qs :: fam 3 S.p :: fam 3 S.q :: Ck.star [ol 40 S.la S.lc (S.ls.map DL.pd), ol 58 S.ra S.rc (S.ls.map DL.pr)] :: Ck.star [ol 39 S.xa S.xc S.x, ol 39 S.ya S.yc S.y, fam 34 S.x, fam 34 S.y] :: stars oDL (S.ls.eraseIdx k) :: H)
      (dW W { S with pa := pa', pc := pc', p := S.p ++ ps, qa := qa', qc := qc', q := S.q ++ qs, n := n', ls := S.ls.set k L' } H) := by
  refine Ent.trans ?_ (dW_put (S := { S with pa := pa', pc := pc', p := S.p ++ ps, qa := qa', qc := qc', q := S.q ++ qs, n := n' }) (L := L) (L' := L') hk hd hr)
  simp only
  refine Ent.cons (by first | exact rmq | exact rm) (Ent.cons (by first | exact rmq | exact rm) (Ent.cons (by first | exact rmq | exact rm) (Ent.cons (by first | exact rmq | exact rm) (Ent.cons (by first | exact rmq | exact rm) (Ent.cons (by first | exact rmq | exact rm) ?_)))))
  refine Ent.trans (H' := Ck.star [ol 47 pa' pc' (S.p ++ ps), ol 47 qa' qc' (S.q ++ qs), fam 3 (S.p ++ ps), fam 3 (S.q ++ qs)] :: Ck.star [ol 39 S.xa S.xc S.x, ol 39 S.ya S.yc S.y, fam 34 S.x, fam 34 S.y] :: stars oDL (S.ls.eraseIdx k) :: H) (Ent.star ?_) (by first | exact entq | exact ent)
  refine Ent.cons (by first | exact rmq | exact rm) (Ent.cons (by first | exact rmq | exact rm) ?_)
  refine Ent.trans (H' := fam 3 S.p :: fam 3 ps :: fam 3 S.q :: fam 3 qs :: Ck.star [ol 39 S.xa S.xc S.x, ol 39 S.ya S.yc S.y, fam 34 S.x, fam 34 S.y] :: stars oDL (S.ls.eraseIdx k) :: H) (Ent.cons (by first | exact rmq | exact rm) (Ent.cons (by first | exact rmq | exact rm) (Ent.cons (by first | exact rmq | exact rm) (Ent.cons (by first | exact rmq | exact rm) (by first | exact entq | exact ent))))) ?_
  exact fam_app.trans (Ent.head fam_app)
theorem dW_xy {W k pc' qc' : Nat} {S : DW} {L L' : DL} {pa' qa' : Option Addr} {ps qs : List SLf} {n' : Int} (hk : S.ls[k]? = some L) (hd : L'.d = L.d) (hr : L'.r = L.r) :
    Ent (.hb L'.d 63 [.slice L'.a L'.xs.length L'.c] :: ol 34 L'.a L'.c L'.xs :: .hb L'.r 73 [.slice L'.b L'.xs.length L'.e] :: ol 34 L'.b L'.e L'.xs :: .hb W 30 [.slice S.la (S.ls.map DL.pd).length S.lc, .slice S.ra (S.ls.map DL.pr).length S.rc, .slice S.pa S.p.length S.pc, .slice S.qa S.q.length S.qc, .slice pa' (S.x ++ ps).length pc', .slice qa' (S.y ++ qs).length qc', .int .i64 n'] :: ol 39 pa' pc' (S.x ++ ps) :: ol 39 qa' qc' (S.y ++ qs) :: fam 34 ps :: fam 34 qs :: fam 34 S.x :: fam 34 S.y :: Ck.star [ol 40 S.la S.lc (S.ls.map DL.pd), ol 58 S.ra S.rc (S.ls.map DL.pr)] :: Ck.star [ol 47 S.pa S.pc S.p, ol 47 S.qa S.qc S.q, fam 3 S.p, fam 3 S.q] :: stars oDL (S.ls.eraseIdx k) :: H)
      (dW W { S with xa := pa', xc := pc', x := S.x ++ ps, ya := qa', yc := qc', y := S.y ++ qs, n := n', ls := S.ls.set k L' } H) := by
  refine Ent.trans ?_ (dW_put (S := { S with xa := pa', xc := pc', x := S.x ++ ps, ya := qa', yc := qc', y := S.y ++ qs, n := n' }) (L := L) (L' := L') hk hd hr)
  simp only
  refine Ent.cons (by first | exact rmq | exact rm) (Ent.cons (by first | exact rmq | exact rm) (Ent.cons (by first | exact rmq | exact rm) (Ent.cons (by first | exact rmq | exact rm) (Ent.cons (by first | exact rmq | exact rm) (Ent.cons (by first | exact rmq | exact rm) ?_)))))
  refine Ent.trans (H' := Ck.star [ol 39 pa' pc' (S.x ++ ps), ol 39 qa' qc' (S.y ++ qs), fam 34 (S.x ++ ps), fam 34 (S.y ++ qs)] :: Ck.star [ol 47 S.pa S.pc S.p, ol 47 S.qa S.qc S.q, fam 3 S.p, fam 3 S.q] :: stars oDL (S.ls.eraseIdx k) :: H) (Ent.star ?_) (by first | exact entq | exact ent)
  refine Ent.cons (by first | exact rmq | exact rm) (Ent.cons (by first | exact rmq | exact rm) ?_)
  refine Ent.trans (H' := fam 34 S.x :: fam 34 ps :: fam 34 S.y :: fam 34 qs :: Ck.star [ol 47 S.pa S.pc S.p, ol 47 S.qa S.qc S.q, fam 3 S.p, fam 3 S.q] :: stars oDL (S.ls.eraseIdx k) :: H) (Ent.cons (by first | exact rmq | exact rm) (Ent.cons (by first | exact rmq | exact rm) (Ent.cons (by first | exact rmq | exact rm) (Ent.cons (by first | exact rmq | exact rm) (by first | exact entq | exact ent))))) ?_
  exact fam_app.trans (Ent.head fam_app)
instance : ElT Try.prog 37 DOp := ⟨trivial⟩
set_option maxHeartbeats 4000000 in
theorem step_s {W M : Nat} {S : DW} {o : DOp} (hS : S.Ok M) (hne : o.k ≠ 1 → S.ls ≠ []) (hM : M + 1 ≤ 5864062014805) (ho : S.out + 2 ≤ 5864062014805) (hn : S.ls.length + 1 ≤ 5864062014805) (hs : RSl w0 H o.sa o.sc o.ss) (hsl : o.ss.length ≤ 17592186043904)
    (hon : -9223372036854775808 ≤ o.on ∧ o.on ≤ 9223372036854775807) :
    FnS Try.prog w0 (dW W S H) 8 #[.pointer (some ⟨W, 0, none⟩), .agg o.cells.toArray] (StepR W S M o H) := by
  refine fns_enter Try.func8 rfl rfl rfl ?_
  refine sx ?_
  refine s_boxA rfl fun b3 => ?_
  refine sx ?_
  refine s_if rfl (fun t1 => ?_) (fun t1 => ?_)
  · refine sx ?_
    refine s_call rfl dnew_s ?_
    rintro _ _ ⟨d, rfl, rfl⟩
    refine ⟨chk_seq, ?_⟩
    refine s_entL (.hb W 30 [.slice S.la (S.ls.map DL.pd).length S.lc, .slice S.ra (S.ls.map DL.pr).length S.rc, .slice S.pa S.p.length S.pc, .slice S.qa S.q.length S.qc, .slice S.xa S.x.length S.xc, .slice S.ya S.y.length S.yc, .int .i64 S.n] :: ol 40 S.la S.lc (S.ls.map DL.pd) :: ol 58 S.ra S.rc (S.ls.map DL.pr) :: .hb d 63 [.slice none 0 0] :: ol 34 none 0 ([] : List Lf) :: Ck.star [ol 47 S.pa S.pc S.p, ol 47 S.qa S.qc S.q, fam 3 S.p, fam 3 S.q] :: Ck.star [ol 39 S.xa S.xc S.x, ol 39 S.ya S.yc S.y, fam 34 S.x, fam 34 S.y] :: stars oDL S.ls :: H)
      (Ent.trans (H' := Ck.star [ol 40 S.la S.lc (S.ls.map DL.pd), ol 58 S.ra S.rc (S.ls.map DL.pr)] :: .hb W 30 [.slice S.la (S.ls.map DL.pd).length S.lc, .slice S.ra (S.ls.map DL.pr).length S.rc, .slice S.pa S.p.length S.pc, .slice S.qa S.q.length S.qc, .slice S.xa S.x.length S.xc, .slice S.ya S.y.length S.yc, .int .i64 S.n] :: .hb d 63 [.slice none 0 0] :: ol 34 none 0 ([] : List Lf) :: Ck.star [ol 47 S.pa S.pc S.p, ol 47 S.qa S.qc S.q, fam 3 S.p, fam 3 S.q] :: Ck.star [ol 39 S.xa S.xc S.x, ol 39 S.ya S.yc S.y, fam 34 S.x, fam 34 S.y] :: stars oDL S.ls :: H) (by first | exact entq | exact ent) (Ent.trans (Ent.open Ent.refl) (by first | exact entq | exact ent))) ?_
    refine sx ?_
    refine s_bsl [(⟨d⟩ : PB)] rfl rfl fun b23 => ?_
    refine sx ?_
    refine s_app (xs := S.ls.map DL.pd) ?_
    intro la' lc'
    refine sx ?_
    have hfin : ∀ (d r : Nat) (la' ra' : Option Addr) (lc' rc' : Nat), StepR W S M o H (.bool true) (dW W { S with la := la', lc := lc', ra := ra', rc := rc', ls := S.ls ++ [(⟨d, r, none, 0, none, 0, []⟩ : DL)] } H) := fun d r la' ra' lc' rc' => by
      refine ⟨rfl, { S with la := la', lc := lc', ra := ra', rc := rc', ls := S.ls ++ [(⟨d, r, none, 0, none, 0, []⟩ : DL)] }, ⟨?_, hS.pq, hS.xy, fun s h => Nat.le_succ_of_le (hS.rp s h), fun s h => Nat.le_succ_of_le (hS.rx s h)⟩, fun _ => ⟨by simp, rfl⟩, fun h => absurd t1 h, rfl⟩
      intro L hL
      rcases List.mem_append.1 hL with h | h
      · exact ⟨(hS.srt L h).1, by have := (hS.srt L h).2; omega⟩
      · rw [List.mem_singleton.1 h]; exact ⟨Srt.nil, Nat.zero_le _⟩
    refine sx ?_; refine s_drH (H) (.one true 0 (.one true 1 (.one true 2 (.one true 3 (.alt (.one false 4 (.one false 5 (.one false 6 (.one false 7 (.one true 8 (.one true 9 (.one false 10 .nil))))))) (.one false 5 (.alt (.one false 4 (.one false 6 (.one false 7 (.one true 8 (.one true 9 (.one false 10 .nil)))))) (.one false 6 (.one false 4 (.one false 7 (.one true 8 (.one true 9 (.one false 10 .nil))))))))))))) mixed (by kernel_rfl) ?_; refine sx ?_
    refine s_alt ?_ ?_
    · refine s_yA rfl rfl (by exact yy) ?_ (chk_held (by first | exact entq | exact ent))
      refine s_call rfl rnew_s ?_; rintro _ _ ⟨r, rfl, rfl⟩; refine ⟨chk_held (by first | exact entq | exact ent), ?_⟩
      refine s_bsl [(⟨r⟩ : PB)] rfl rfl fun b33 => ?_
      refine s_app (xs := S.ls.map DL.pr) ?_
      intro ra' rc'
      refine sx ?_
      have e1 : S.ls.map DL.pd ++ [(⟨d⟩ : PB)] = (S.ls ++ [(⟨d, r, none, 0, none, 0, []⟩ : DL)]).map DL.pd := by simp
      have e2 : S.ls.map DL.pr ++ [(⟨r⟩ : PB)] = (S.ls ++ [(⟨d, r, none, 0, none, 0, []⟩ : DL)]).map DL.pr := by simp
      rw [e1, e2]
      refine s_ret1 rfl rfl (hfin d r la' ra' lc' rc') (he := ?_)
      refine Ent.cons (by first | exact rmq | exact rm) ?_
      refine Ent.star (Ent.cons (by first | exact rmq | exact rm) (Ent.cons (by first | exact rmq | exact rm) ?_))
      refine Ent.cons (by first | exact rmq | exact rm) (Ent.cons (by first | exact rmq | exact rm) ?_)
      refine Ent.trans (H' := oDL (⟨d, r, none, 0, none, 0, []⟩ : DL) ++ stars oDL S.ls :: H) ?_ stars_snoc
      refine Ent.cons (by first | exact rmq | exact rm) (Ent.cons (by first | exact rmq | exact rm) (Ent.cons (by first | exact rmq | exact rm) (Ent.cons (by first | exact rmq | exact rm) (by first | exact entq | exact ent))))
    · refine s_call rfl rnew_s ?_; rintro _ _ ⟨r, rfl, rfl⟩; refine ⟨chk_held (by first | exact entq | exact ent), ?_⟩
      refine s_alt ?_ ?_
      · refine s_yA rfl rfl (by exact yy) ?_ (chk_held (by first | exact entq | exact ent))
        refine s_bsl [(⟨r⟩ : PB)] rfl rfl fun b33 => ?_
        refine s_app (xs := S.ls.map DL.pr) ?_
        intro ra' rc'
        refine sx ?_
        have e1 : S.ls.map DL.pd ++ [(⟨d⟩ : PB)] = (S.ls ++ [(⟨d, r, none, 0, none, 0, []⟩ : DL)]).map DL.pd := by simp
        have e2 : S.ls.map DL.pr ++ [(⟨r⟩ : PB)] = (S.ls ++ [(⟨d, r, none, 0, none, 0, []⟩ : DL)]).map DL.pr := by simp
        rw [e1, e2]
        refine s_ret1 rfl rfl (hfin d r la' ra' lc' rc') (he := ?_)
        refine Ent.cons (by first | exact rmq | exact rm) ?_
        refine Ent.star (Ent.cons (by first | exact rmq | exact rm) (Ent.cons (by first | exact rmq | exact rm) ?_))
        refine Ent.cons (by first | exact rmq | exact rm) (Ent.cons (by first | exact rmq | exact rm) ?_)
        refine Ent.trans (H' := oDL (⟨d, r, none, 0, none, 0, []⟩ : DL) ++ stars oDL S.ls :: H) ?_ stars_snoc
        refine Ent.cons (by first | exact rmq | exact rm) (Ent.cons (by first | exact rmq | exact rm) (Ent.cons (by first | exact rmq | exact rm) (Ent.cons (by first | exact rmq | exact rm) (by first | exact entq | exact ent))))
      · refine s_bsl [(⟨r⟩ : PB)] rfl rfl fun b33 => ?_
        refine s_yA rfl rfl (by exact yy) ?_ (chk_held (by first | exact entq | exact ent))
        refine s_app (xs := S.ls.map DL.pr) ?_
        intro ra' rc'
        refine sx ?_
        have e1 : S.ls.map DL.pd ++ [(⟨d⟩ : PB)] = (S.ls ++ [(⟨d, r, none, 0, none, 0, []⟩ : DL)]).map DL.pd := by simp
        have e2 : S.ls.map DL.pr ++ [(⟨r⟩ : PB)] = (S.ls ++ [(⟨d, r, none, 0, none, 0, []⟩ : DL)]).map DL.pr := by simp
        rw [e1, e2]
        refine s_ret1 rfl rfl (hfin d r la' ra' lc' rc') (he := ?_)
        refine Ent.cons (by first | exact rmq | exact rm) ?_
        refine Ent.star (Ent.cons (by first | exact rmq | exact rm) (Ent.cons (by first | exact rmq | exact rm) ?_))
        refine Ent.cons (by first | exact rmq | exact rm) (Ent.cons (by first | exact rmq | exact rm) ?_)
        refine Ent.trans (H' := oDL (⟨d, r, none, 0, none, 0, []⟩ : DL) ++ stars oDL S.ls :: H) ?_ stars_snoc
        refine Ent.cons (by first | exact rmq | exact rm) (Ent.cons (by first | exact rmq | exact rm) (Ent.cons (by first | exact rmq | exact rm) (Ent.cons (by first | exact rmq | exact rm) (by first | exact entq | exact ent))))
  have hpos : 1 ≤ (S.ls.map DL.pd).length := by
    rw [List.length_map]
    exact List.length_pos_iff.2 (hne t1)
  refine sx ?_
  refine s_cut (ι := Int) (fun z => [(0, .pointer (some ⟨W, 0, none⟩)), (3, .pointer (some ⟨b3, 0, none⟩)), (6, .int .i64 z)]) (fun _ => .hb b3 37 o.cells :: dW W S H) (fun z => 0 ≤ z ∧ z ≤ 9223372036854775807) ?_ ?_
  · refine s_if rfl (fun t2 => ?_) (fun t2 => ?_)
    · refine sx ?_
      exact s_mid (-(o.on + 1)) (by omega)
    · refine sx ?_
      exact s_mid o.on (by omega)
  rintro z hz
  obtain ⟨k, hk, hkl⟩ : ∃ k : Nat, z % ((S.ls.map DL.pd).length : Int) = (k : Int) ∧ k < S.ls.length := by
    have h1 := Int.emod_nonneg z (b := ((S.ls.map DL.pd).length : Int)) (by omega)
    have h2 := Int.emod_lt_of_pos z (b := ((S.ls.map DL.pd).length : Int)) (by omega)
    refine ⟨(z % ((S.ls.map DL.pd).length : Int)).toNat, by omega, ?_⟩
    rw [List.length_map] at h1 h2 ⊢
    omega
  obtain ⟨L, hL⟩ := get_lt S.ls k hkl
  have hLs := hS.srt L (List.mem_of_getElem? hL)
  have rl : RSl w0 (Ck.star [ol 40 S.la S.lc (S.ls.map DL.pd), ol 58 S.ra S.rc (S.ls.map DL.pr)] :: Ck.star [ol 47 S.pa S.pc S.p, ol 47 S.qa S.qc S.q, fam 3 S.p, fam 3 S.q] :: Ck.star [ol 39 S.xa S.xc S.x, ol 39 S.ya S.yc S.y, fam 34 S.x, fam 34 S.y] :: stars oDL S.ls :: H) S.la S.lc (S.ls.map DL.pd) := RSl.ent RSl.hd (Ent.mem' (c := ol 40 S.la S.lc (S.ls.map DL.pd)) (by simp))
  have rr : RSl w0 (Ck.star [ol 40 S.la S.lc (S.ls.map DL.pd), ol 58 S.ra S.rc (S.ls.map DL.pr)] :: Ck.star [ol 47 S.pa S.pc S.p, ol 47 S.qa S.qc S.q, fam 3 S.p, fam 3 S.q] :: Ck.star [ol 39 S.xa S.xc S.x, ol 39 S.ya S.yc S.y, fam 34 S.x, fam 34 S.y] :: stars oDL S.ls :: H) S.ra S.rc (S.ls.map DL.pr) := RSl.ent RSl.hd (Ent.mem' (c := ol 58 S.ra S.rc (S.ls.map DL.pr)) (by simp))
  have gl := get_map (f := DL.pd) hL
  have gr := get_map (f := DL.pr) hL
  have e1 : k < (S.ls.map DL.pd).length := by rw [List.length_map]; exact hkl
  have e2 : k < (S.ls.map DL.pr).length := by rw [List.length_map]; exact hkl
  have stp : StopAt 10 := trivial
  refine sxs ?_
  clear stp
  refine s_rwC (t := 6) (v' := .int .i64 (k : Nat)) rfl (ci hk) ?_
  have stp : StopAt 12 := trivial
  refine sxs ?_
  clear stp rl rr
  refine s_ent (.hb b3 37 o.cells :: .hb L.d 63 [.slice L.a L.xs.length L.c] :: ol 34 L.a L.c L.xs :: .hb L.r 73 [.slice L.b L.xs.length L.e] :: ol 34 L.b L.e L.xs :: .hb W 30 [.slice S.la (S.ls.map DL.pd).length S.lc, .slice S.ra (S.ls.map DL.pr).length S.rc, .slice S.pa S.p.length S.pc, .slice S.qa S.q.length S.qc, .slice S.xa S.x.length S.xc, .slice S.ya S.y.length S.yc, .int .i64 S.n] :: Ck.star [ol 40 S.la S.lc (S.ls.map DL.pd), ol 58 S.ra S.rc (S.ls.map DL.pr)] :: Ck.star [ol 47 S.pa S.pc S.p, ol 47 S.qa S.qc S.q, fam 3 S.p, fam 3 S.q] :: Ck.star [ol 39 S.xa S.xc S.x, ol 39 S.ya S.yc S.y, fam 34 S.x, fam 34 S.y] :: stars oDL (S.ls.eraseIdx k) :: H) (Ent.head (Ent.trans (H' := stars oDL S.ls :: .hb W 30 [.slice S.la (S.ls.map DL.pd).length S.lc, .slice S.ra (S.ls.map DL.pr).length S.rc, .slice S.pa S.p.length S.pc, .slice S.qa S.q.length S.qc, .slice S.xa S.x.length S.xc, .slice S.ya S.y.length S.yc, .int .i64 S.n] :: Ck.star [ol 40 S.la S.lc (S.ls.map DL.pd), ol 58 S.ra S.rc (S.ls.map DL.pr)] :: Ck.star [ol 47 S.pa S.pc S.p, ol 47 S.qa S.qc S.q, fam 3 S.p, fam 3 S.q] :: Ck.star [ol 39 S.xa S.xc S.x, ol 39 S.ya S.yc S.y, fam 34 S.x, fam 34 S.y] :: H) (by first | exact entq | exact ent) ((stars_get hL).trans (Ent.head (Ent.head (Ent.head (Ent.head (by first | exact entq | exact ent)))))))) ?_
  refine sx ?_
  refine s_sub (l' := [(0, .pointer (some ⟨W, 0, none⟩)), (3, .pointer (some ⟨b3, 0, none⟩)), (7, .pointer (some ⟨L.d, 0, none⟩)), (8, .pointer (some ⟨L.r, 0, none⟩)), (68, .int .i64 o.k), (69, .bool (decide (o.k = 2)))]) ?_ (by repeat (first | exact trivial | refine And.intro (by first | exact rfl | exact congrArg some (ci (by omega))) ?_))
  have eq : Ent (.hb b3 37 o.cells :: .hb L.d 63 [.slice L.a L.xs.length L.c] :: ol 34 L.a L.c L.xs :: .hb L.r 73 [.slice L.b L.xs.length L.e] :: ol 34 L.b L.e L.xs :: .hb W 30 [.slice S.la (S.ls.map DL.pd).length S.lc, .slice S.ra (S.ls.map DL.pr).length S.rc, .slice S.pa S.p.length S.pc, .slice S.qa S.q.length S.qc, .slice S.xa S.x.length S.xc, .slice S.ya S.y.length S.yc, .int .i64 S.n] :: Ck.star [ol 40 S.la S.lc (S.ls.map DL.pd), ol 58 S.ra S.rc (S.ls.map DL.pr)] :: Ck.star [ol 47 S.pa S.pc S.p, ol 47 S.qa S.qc S.q, fam 3 S.p, fam 3 S.q] :: Ck.star [ol 39 S.xa S.xc S.x, ol 39 S.ya S.yc S.y, fam 34 S.x, fam 34 S.y] :: stars oDL (S.ls.eraseIdx k) :: H) (.hb L.d 63 [.slice L.a L.xs.length L.c] :: ol 34 L.a L.c L.xs :: .hb L.r 73 [.slice L.b L.xs.length L.e] :: ol 34 L.b L.e L.xs :: .hb W 30 [.slice S.la (S.ls.map DL.pd).length S.lc, .slice S.ra (S.ls.map DL.pr).length S.rc, .slice S.pa S.p.length S.pc, .slice S.qa S.q.length S.qc, .slice S.xa S.x.length S.xc, .slice S.ya S.y.length S.yc, .int .i64 S.n] :: ol 47 S.pa S.pc S.p :: ol 47 S.qa S.qc S.q :: fam 3 S.p :: fam 3 S.q :: .hb b3 37 o.cells :: Ck.star [ol 40 S.la S.lc (S.ls.map DL.pd), ol 58 S.ra S.rc (S.ls.map DL.pr)] :: Ck.star [ol 39 S.xa S.xc S.x, ol 39 S.ya S.yc S.y, fam 34 S.x, fam 34 S.y] :: stars oDL (S.ls.eraseIdx k) :: H) :=
    Ent.cons (by first | exact rmq | exact rm) (Ent.cons (by first | exact rmq | exact rm) (Ent.cons (by first | exact rmq | exact rm) (Ent.cons (by first | exact rmq | exact rm) (Ent.cons (by first | exact rmq | exact rm) (Ent.trans (H' := Ck.star [ol 47 S.pa S.pc S.p, ol 47 S.qa S.qc S.q, fam 3 S.p, fam 3 S.q] :: .hb b3 37 o.cells :: Ck.star [ol 40 S.la S.lc (S.ls.map DL.pd), ol 58 S.ra S.rc (S.ls.map DL.pr)] :: Ck.star [ol 39 S.xa S.xc S.x, ol 39 S.ya S.yc S.y, fam 34 S.x, fam 34 S.y] :: stars oDL (S.ls.eraseIdx k) :: H) (by first | exact entq | exact ent) (Ent.open Ent.refl))))))
  have ex : Ent (.hb b3 37 o.cells :: .hb L.d 63 [.slice L.a L.xs.length L.c] :: ol 34 L.a L.c L.xs :: .hb L.r 73 [.slice L.b L.xs.length L.e] :: ol 34 L.b L.e L.xs :: .hb W 30 [.slice S.la (S.ls.map DL.pd).length S.lc, .slice S.ra (S.ls.map DL.pr).length S.rc, .slice S.pa S.p.length S.pc, .slice S.qa S.q.length S.qc, .slice S.xa S.x.length S.xc, .slice S.ya S.y.length S.yc, .int .i64 S.n] :: Ck.star [ol 40 S.la S.lc (S.ls.map DL.pd), ol 58 S.ra S.rc (S.ls.map DL.pr)] :: Ck.star [ol 47 S.pa S.pc S.p, ol 47 S.qa S.qc S.q, fam 3 S.p, fam 3 S.q] :: Ck.star [ol 39 S.xa S.xc S.x, ol 39 S.ya S.yc S.y, fam 34 S.x, fam 34 S.y] :: stars oDL (S.ls.eraseIdx k) :: H) (.hb L.d 63 [.slice L.a L.xs.length L.c] :: ol 34 L.a L.c L.xs :: .hb L.r 73 [.slice L.b L.xs.length L.e] :: ol 34 L.b L.e L.xs :: .hb W 30 [.slice S.la (S.ls.map DL.pd).length S.lc, .slice S.ra (S.ls.map DL.pr).length S.rc, .slice S.pa S.p.length S.pc, .slice S.qa S.q.length S.qc, .slice S.xa S.x.length S.xc, .slice S.ya S.y.length S.yc, .int .i64 S.n] :: ol 39 S.xa S.xc S.x :: ol 39 S.ya S.yc S.y :: fam 34 S.x :: fam 34 S.y :: .hb b3 37 o.cells :: Ck.star [ol 40 S.la S.lc (S.ls.map DL.pd), ol 58 S.ra S.rc (S.ls.map DL.pr)] :: Ck.star [ol 47 S.pa S.pc S.p, ol 47 S.qa S.qc S.q, fam 3 S.p, fam 3 S.q] :: stars oDL (S.ls.eraseIdx k) :: H) :=
    Ent.cons (by first | exact rmq | exact rm) (Ent.cons (by first | exact rmq | exact rm) (Ent.cons (by first | exact rmq | exact rm) (Ent.cons (by first | exact rmq | exact rm) (Ent.cons (by first | exact rmq | exact rm) (Ent.trans (H' := Ck.star [ol 39 S.xa S.xc S.x, ol 39 S.ya S.yc S.y, fam 34 S.x, fam 34 S.y] :: .hb b3 37 o.cells :: Ck.star [ol 40 S.la S.lc (S.ls.map DL.pd), ol 58 S.ra S.rc (S.ls.map DL.pr)] :: Ck.star [ol 47 S.pa S.pc S.p, ol 47 S.qa S.qc S.q, fam 3 S.p, fam 3 S.q] :: stars oDL (S.ls.eraseIdx k) :: H) (by first | exact entq | exact ent) (Ent.open Ent.refl))))))
  refine s_if rfl (fun t2 => ?_) (fun t2 => ?_)
  · refine sx ?_; refine s_drH (.hb b3 37 o.cells :: H) (.one true 0 (.one true 1 (.one true 2 (.one true 4 (.one true 5 (.one true 6 (.one false 3 (.one false 7 (.one true 8 (.one true 9 .nil)))))))))) mixed (by kernel_rfl) ?_; refine sx ?_
    refine s_entL (.hb L.d 63 [.slice L.a L.xs.length L.c] :: ol 34 L.a L.c L.xs :: .hb L.r 73 [.slice L.b L.xs.length L.e] :: ol 34 L.b L.e L.xs :: .hb b3 37 o.cells :: .hb W 30 [.slice S.la (S.ls.map DL.pd).length S.lc, .slice S.ra (S.ls.map DL.pr).length S.rc, .slice S.pa S.p.length S.pc, .slice S.qa S.q.length S.qc, .slice S.xa S.x.length S.xc, .slice S.ya S.y.length S.yc, .int .i64 S.n] :: Ck.star [ol 40 S.la S.lc (S.ls.map DL.pd), ol 58 S.ra S.rc (S.ls.map DL.pr)] :: Ck.star [ol 47 S.pa S.pc S.p, ol 47 S.qa S.qc S.q, fam 3 S.p, fam 3 S.q] :: Ck.star [ol 39 S.xa S.xc S.x, ol 39 S.ya S.yc S.y, fam 34 S.x, fam 34 S.y] :: stars oDL (S.ls.eraseIdx k) :: H) (by first | exact entq | exact ent) ?_
    refine s_call rfl (dput_s (xs := L.xs) (x := o.x) hLs.1 (by omega)) ?_
    rintro _ _ ⟨rfl, a2, c2, rfl⟩
    refine ⟨chk_held (by first | exact entq | exact ent), ?_⟩
    refine s_entL (.hb L.r 73 [.slice L.b L.xs.length L.e] :: ol 34 L.b L.e L.xs :: .hb L.d 63 [.slice a2 (putV L.xs o.x).length c2] :: ol 34 a2 c2 (putV L.xs o.x) :: .hb b3 37 o.cells :: .hb W 30 [.slice S.la (S.ls.map DL.pd).length S.lc, .slice S.ra (S.ls.map DL.pr).length S.rc, .slice S.pa S.p.length S.pc, .slice S.qa S.q.length S.qc, .slice S.xa S.x.length S.xc, .slice S.ya S.y.length S.yc, .int .i64 S.n] :: Ck.star [ol 40 S.la S.lc (S.ls.map DL.pd), ol 58 S.ra S.rc (S.ls.map DL.pr)] :: Ck.star [ol 47 S.pa S.pc S.p, ol 47 S.qa S.qc S.q, fam 3 S.p, fam 3 S.q] :: Ck.star [ol 39 S.xa S.xc S.x, ol 39 S.ya S.yc S.y, fam 34 S.x, fam 34 S.y] :: stars oDL (S.ls.eraseIdx k) :: H) (by first | exact entq | exact ent) ?_
    refine s_call rfl (rput_s (xs := L.xs) (x := o.x) hLs.1 (by omega)) ?_
    rintro _ _ ⟨rfl, b2, e3, rfl⟩
    refine ⟨chk_held (by first | exact entq | exact ent), ?_⟩
    refine sx ?_
    refine s_ret1 rfl rfl ⟨rfl, { S with ls := S.ls.set k (⟨L.d, L.r, a2, c2, b2, e3, putV L.xs o.x⟩ : DL) }, ⟨hS.set ⟨putV_srt hLs.1, ?_⟩, hS.pq, hS.xy, fun s h => Nat.le_succ_of_le (hS.rp s h), fun s h => Nat.le_succ_of_le (hS.rx s h)⟩, fun h => absurd h t1, fun _ => ⟨by simp, by simp⟩, rfl⟩ (he := ?_)
    · have := putV_len L.xs o.x; simp only; omega
    · exact Ent.trans (by first | exact entq | exact ent) (dW_put (L := L) (L' := (⟨L.d, L.r, a2, c2, b2, e3, putV L.xs o.x⟩ : DL)) hL rfl rfl)
  have hql : S.q.length = S.p.length := by simpa using (congrArg List.length hS.pq).symm
  have hyl : S.y.length = S.x.length := by simpa using (congrArg List.length hS.xy).symm
  have ho' : S.p.length + S.x.length + 2 ≤ 5864062014805 := ho
  refine sx ?_
  refine s_if rfl (fun t3 => ?_) (fun t3 => ?_)
  · refine s_ent _ eq ?_
    refine sx ?_
    refine s_call rfl (frees_s (xs := L.xs) (l := o.ss) (p := S.p) (q := S.q) (by exact rsl) hsl (by omega) (by omega) (by omega)) ?_
    rintro _ _ ⟨rfl, a2, c2, b2, e3, pa2, pc2, qa2, qc2, n2, ps, qs, g1, g2, g3, rfl⟩
    refine ⟨chk_seq, ?_⟩
    refine sx ?_
    have hkl := keptV_len L.xs (ssN o.ss)
    have hks : Srt (keptV L.xs (ssN o.ss)) := filter_srt hLs.1
    refine s_ret1 rfl rfl ⟨rfl, { S with pa := pa2, pc := pc2, p := S.p ++ ps, qa := qa2, qc := qc2, q := S.q ++ qs, n := n2, ls := S.ls.set k (⟨L.d, L.r, a2, c2, b2, e3, keptV L.xs (ssN o.ss)⟩ : DL) }, ⟨hS.set ⟨hks, ?_⟩, by simp only [List.map_append, hS.pq, g1], hS.xy, fun s h => (List.mem_append.1 h).elim (fun h => Nat.le_succ_of_le (hS.rp s h)) (fun h => by have := g3 s h; omega), fun s h => Nat.le_succ_of_le (hS.rx s h)⟩, fun h => absurd h t1, fun _ => ⟨by simp, by simp only [DW.out, List.length_append, g2]; omega⟩, rfl⟩ (he := ?_)
    · simp only; omega
    · exact Ent.trans (Ent.head (Ent.head (Ent.head (Ent.head (Ent.head (Ent.head (Ent.head (Ent.head (Ent.head (Ent.head (Ent.head (Ent.tl Ent.refl)))))))))))) (dW_pq (L := L) (L' := (⟨L.d, L.r, a2, c2, b2, e3, keptV L.xs (ssN o.ss)⟩ : DL)) hL rfl rfl)
  clear t2
  refine sx ?_
  refine s_if rfl (fun t4 => ?_) (fun t4 => ?_)
  · clear ex
    have hhl := heldV_len L.xs o.g
    refine s_ent _ eq ?_
    refine sx ?_; refine s_drH (.hb b3 37 o.cells :: H) (.one true 0 (.one true 1 (.one true 2 (.one true 3 (.one true 5 (.one true 6 (.one true 7 (.one false 4 (.one false 8 (.one false 9 (.one true 10 .nil))))))))))) mixed (by kernel_rfl) ?_; refine sx ?_
    refine s_call rfl (dheld_s (xs := L.xs) (by omega)) ?_
    rintro _ _ ⟨a2, c2, rfl, rfl⟩
    refine ⟨chk_held (by first | exact entq | exact ent), ?_⟩
    refine sx ?_
    refine s_entL (.hb L.r 73 [.slice L.b L.xs.length L.e] :: ol 34 L.b L.e L.xs :: ol 3 a2 c2 (heldV L.xs o.g) :: .hb L.d 63 [.slice L.a L.xs.length L.c] :: ol 34 L.a L.c L.xs :: .hb W 30 [.slice S.la (S.ls.map DL.pd).length S.lc, .slice S.ra (S.ls.map DL.pr).length S.rc, .slice S.pa S.p.length S.pc, .slice S.qa S.q.length S.qc, .slice S.xa S.x.length S.xc, .slice S.ya S.y.length S.yc, .int .i64 S.n] :: ol 47 S.pa S.pc S.p :: ol 47 S.qa S.qc S.q :: fam 3 S.p :: fam 3 S.q :: .hb b3 37 o.cells :: Ck.star [ol 40 S.la S.lc (S.ls.map DL.pd), ol 58 S.ra S.rc (S.ls.map DL.pr)] :: Ck.star [ol 39 S.xa S.xc S.x, ol 39 S.ya S.yc S.y, fam 34 S.x, fam 34 S.y] :: stars oDL (S.ls.eraseIdx k) :: H) ?he2 ?_
    case he2 => exact Ent.cons (by first | exact rmq | exact rm) (Ent.cons (by first | exact rmq | exact rm) (Ent.head (Ent.head (Ent.head Ent.refl))))
    refine s_call rfl (rheld_s (xs := L.xs) (by omega)) ?_
    rintro _ _ ⟨b2, e2, rfl, rfl⟩
    refine ⟨chk_held (by first | exact entq | exact ent), ?_⟩
    refine sx ?_
    refine s_entL (.hb W 30 [.slice S.la (S.ls.map DL.pd).length S.lc, .slice S.ra (S.ls.map DL.pr).length S.rc, .slice S.pa S.p.length S.pc, .slice S.qa S.q.length S.qc, .slice S.xa S.x.length S.xc, .slice S.ya S.y.length S.yc, .int .i64 S.n] :: ol 47 S.pa S.pc S.p :: ol 47 S.qa S.qc S.q :: ol 3 a2 c2 (heldV L.xs o.g) :: ol 3 b2 e2 (heldV L.xs o.g) :: .hb L.d 63 [.slice L.a L.xs.length L.c] :: ol 34 L.a L.c L.xs :: .hb L.r 73 [.slice L.b L.xs.length L.e] :: ol 34 L.b L.e L.xs :: fam 3 S.p :: fam 3 S.q :: .hb b3 37 o.cells :: Ck.star [ol 40 S.la S.lc (S.ls.map DL.pd), ol 58 S.ra S.rc (S.ls.map DL.pr)] :: Ck.star [ol 39 S.xa S.xc S.x, ol 39 S.ya S.yc S.y, fam 34 S.x, fam 34 S.y] :: stars oDL (S.ls.eraseIdx k) :: H) ?hf2 ?_
    case hf2 => exact Ent.cons (by first | exact rmq | exact rm) (Ent.cons (by first | exact rmq | exact rm) (Ent.cons (by first | exact rmq | exact rm) (by first | exact entq | exact ent)))
    refine s_call rfl (pages_s (p := S.p) (q := S.q) (xs := (heldV L.xs o.g)) (by exact rsl) (by exact rsl) (by first | omega | (simp only [List.length_append, List.length_cons, List.length_nil]; omega)) (by first | omega | (simp only [List.length_append, List.length_cons, List.length_nil]; omega))) ?_
    rintro _ _ ⟨rfl, pa2, pc2, qa2, qc2, n2, rfl⟩
    refine ⟨chk_held (by first | exact entq | exact ent), ?_⟩
    refine sx ?_
    refine sx ?_; refine s_drH (.hb b3 37 o.cells :: H) (.one true 0 (.one true 1 (.one true 2 (.one true 3 (.one true 5 (.one true 6 (.one true 7 (.one false 4 (.one false 8 (.one false 9 (.one true 10 .nil))))))))))) mixed (by kernel_rfl) ?_; refine sx ?_
    refine s_entL (.hb L.d 63 [.slice L.a L.xs.length L.c] :: ol 34 L.a L.c L.xs :: .hb L.r 73 [.slice L.b L.xs.length L.e] :: ol 34 L.b L.e L.xs :: .hb W 30 [.slice S.la (S.ls.map DL.pd).length S.lc, .slice S.ra (S.ls.map DL.pr).length S.rc, .slice pa2 (S.p ++ [(⟨a2, c2, (heldV L.xs o.g)⟩ : SIn)]).length pc2, .slice qa2 (S.q ++ [(⟨b2, e2, (heldV L.xs o.g)⟩ : SIn)]).length qc2, .slice S.xa S.x.length S.xc, .slice S.ya S.y.length S.yc, .int .i64 n2] :: ol 47 pa2 pc2 (S.p ++ [(⟨a2, c2, (heldV L.xs o.g)⟩ : SIn)]) :: ol 47 qa2 qc2 (S.q ++ [(⟨b2, e2, (heldV L.xs o.g)⟩ : SIn)]) :: ol 3 a2 c2 (heldV L.xs o.g) :: ol 3 b2 e2 (heldV L.xs o.g) :: fam 3 S.p :: fam 3 S.q :: .hb b3 37 o.cells :: Ck.star [ol 40 S.la S.lc (S.ls.map DL.pd), ol 58 S.ra S.rc (S.ls.map DL.pr)] :: Ck.star [ol 39 S.xa S.xc S.x, ol 39 S.ya S.yc S.y, fam 34 S.x, fam 34 S.y] :: stars oDL (S.ls.eraseIdx k) :: H) (by first | exact entq | exact ent) ?_
    refine s_call rfl (dheld_s (xs := L.xs) (by omega)) ?_
    rintro _ _ ⟨a3, c3, rfl, rfl⟩
    refine ⟨chk_held (by first | exact entq | exact ent), ?_⟩
    refine sx ?_
    refine s_entL (.hb L.r 73 [.slice L.b L.xs.length L.e] :: ol 34 L.b L.e L.xs :: ol 3 a3 c3 (heldV L.xs o.g) :: .hb L.d 63 [.slice L.a L.xs.length L.c] :: ol 34 L.a L.c L.xs :: .hb W 30 [.slice S.la (S.ls.map DL.pd).length S.lc, .slice S.ra (S.ls.map DL.pr).length S.rc, .slice pa2 (S.p ++ [(⟨a2, c2, (heldV L.xs o.g)⟩ : SIn)]).length pc2, .slice qa2 (S.q ++ [(⟨b2, e2, (heldV L.xs o.g)⟩ : SIn)]).length qc2, .slice S.xa S.x.length S.xc, .slice S.ya S.y.length S.yc, .int .i64 n2] :: ol 47 pa2 pc2 (S.p ++ [(⟨a2, c2, (heldV L.xs o.g)⟩ : SIn)]) :: ol 47 qa2 qc2 (S.q ++ [(⟨b2, e2, (heldV L.xs o.g)⟩ : SIn)]) :: ol 3 a2 c2 (heldV L.xs o.g) :: ol 3 b2 e2 (heldV L.xs o.g) :: fam 3 S.p :: fam 3 S.q :: .hb b3 37 o.cells :: Ck.star [ol 40 S.la S.lc (S.ls.map DL.pd), ol 58 S.ra S.rc (S.ls.map DL.pr)] :: Ck.star [ol 39 S.xa S.xc S.x, ol 39 S.ya S.yc S.y, fam 34 S.x, fam 34 S.y] :: stars oDL (S.ls.eraseIdx k) :: H) ?he3 ?_
    case he3 => exact Ent.cons (by first | exact rmq | exact rm) (Ent.cons (by first | exact rmq | exact rm) (Ent.head (Ent.head (Ent.head Ent.refl))))
    refine s_call rfl (rheld_s (xs := L.xs) (by omega)) ?_
    rintro _ _ ⟨b3', e3, rfl, rfl⟩
    refine ⟨chk_held (by first | exact entq | exact ent), ?_⟩
    refine sx ?_
    refine s_entL (.hb W 30 [.slice S.la (S.ls.map DL.pd).length S.lc, .slice S.ra (S.ls.map DL.pr).length S.rc, .slice pa2 (S.p ++ [(⟨a2, c2, (heldV L.xs o.g)⟩ : SIn)]).length pc2, .slice qa2 (S.q ++ [(⟨b2, e2, (heldV L.xs o.g)⟩ : SIn)]).length qc2, .slice S.xa S.x.length S.xc, .slice S.ya S.y.length S.yc, .int .i64 n2] :: ol 47 pa2 pc2 (S.p ++ [(⟨a2, c2, (heldV L.xs o.g)⟩ : SIn)]) :: ol 47 qa2 qc2 (S.q ++ [(⟨b2, e2, (heldV L.xs o.g)⟩ : SIn)]) :: ol 3 a3 c3 (heldV L.xs o.g) :: ol 3 b3' e3 (heldV L.xs o.g) :: ol 3 a2 c2 (heldV L.xs o.g) :: ol 3 b2 e2 (heldV L.xs o.g) :: .hb L.d 63 [.slice L.a L.xs.length L.c] :: ol 34 L.a L.c L.xs :: .hb L.r 73 [.slice L.b L.xs.length L.e] :: ol 34 L.b L.e L.xs :: fam 3 S.p :: fam 3 S.q :: .hb b3 37 o.cells :: Ck.star [ol 40 S.la S.lc (S.ls.map DL.pd), ol 58 S.ra S.rc (S.ls.map DL.pr)] :: Ck.star [ol 39 S.xa S.xc S.x, ol 39 S.ya S.yc S.y, fam 34 S.x, fam 34 S.y] :: stars oDL (S.ls.eraseIdx k) :: H) ?hf3 ?_
    case hf3 => exact Ent.cons (by first | exact rmq | exact rm) (Ent.cons (by first | exact rmq | exact rm) (Ent.cons (by first | exact rmq | exact rm) (by first | exact entq | exact ent)))
    refine s_call rfl (pages_s (p := (S.p ++ [(⟨a2, c2, (heldV L.xs o.g)⟩ : SIn)])) (q := (S.q ++ [(⟨b2, e2, (heldV L.xs o.g)⟩ : SIn)])) (xs := (heldV L.xs o.g)) (by exact rsl) (by exact rsl) (by first | omega | (simp only [List.length_append, List.length_cons, List.length_nil]; omega)) (by first | omega | (simp only [List.length_append, List.length_cons, List.length_nil]; omega))) ?_
    rintro _ _ ⟨rfl, pa3, pc3, qa3, qc3, n3, rfl⟩
    refine ⟨chk_held (by first | exact entq | exact ent), ?_⟩
    refine sx ?_
    have f1 : S.p ++ [(⟨a2, c2, (heldV L.xs o.g)⟩ : SIn)] ++ [(⟨a3, c3, (heldV L.xs o.g)⟩ : SIn)] = S.p ++ [(⟨a2, c2, (heldV L.xs o.g)⟩ : SIn), (⟨a3, c3, (heldV L.xs o.g)⟩ : SIn)] := by simp
    have f2 : S.q ++ [(⟨b2, e2, (heldV L.xs o.g)⟩ : SIn)] ++ [(⟨b3', e3, (heldV L.xs o.g)⟩ : SIn)] = S.q ++ [(⟨b2, e2, (heldV L.xs o.g)⟩ : SIn), (⟨b3', e3, (heldV L.xs o.g)⟩ : SIn)] := by simp
    rw [f1, f2]
    refine s_ret1 rfl rfl ⟨rfl, { S with pa := pa3, pc := pc3, p := S.p ++ [(⟨a2, c2, (heldV L.xs o.g)⟩ : SIn), (⟨a3, c3, (heldV L.xs o.g)⟩ : SIn)], qa := qa3, qc := qc3, q := S.q ++ [(⟨b2, e2, (heldV L.xs o.g)⟩ : SIn), (⟨b3', e3, (heldV L.xs o.g)⟩ : SIn)], n := n3, ls := S.ls.set k L }, ⟨hS.set (L' := L) ⟨hLs.1, by omega⟩, by simp only [List.map_append, hS.pq]; rfl, hS.xy, fun s h => (List.mem_append.1 h).elim (fun h => Nat.le_succ_of_le (hS.rp s h)) (fun h => by simp only [List.mem_cons, List.not_mem_nil, or_false] at h; rcases h with rfl | rfl <;> (simp only; omega)), fun s h => Nat.le_succ_of_le (hS.rx s h)⟩, fun h => absurd h t1, fun _ => ⟨by simp, by simp only [DW.out, List.length_append, List.length_cons, List.length_nil]; omega⟩, rfl⟩ (he := ?_)
    refine Ent.trans ?_ (dW_pq (ps := [(⟨a2, c2, (heldV L.xs o.g)⟩ : SIn), (⟨a3, c3, (heldV L.xs o.g)⟩ : SIn)]) (qs := [(⟨b2, e2, (heldV L.xs o.g)⟩ : SIn), (⟨b3', e3, (heldV L.xs o.g)⟩ : SIn)]) hL rfl rfl)
    refine Ent.cons (by first | exact rmq | exact rm) (Ent.cons (by first | exact rmq | exact rm) (Ent.cons (by first | exact rmq | exact rm) (Ent.cons (by first | exact rmq | exact rm) ?_)))
    refine Ent.head (Ent.head (Ent.head ?_))
    refine Ent.trans (H' := Row.ck 3 (⟨a2, c2, (heldV L.xs o.g)⟩ : SIn) :: Row.ck 3 (⟨a3, c3, (heldV L.xs o.g)⟩ : SIn) :: Row.ck 3 (⟨b2, e2, (heldV L.xs o.g)⟩ : SIn) :: Row.ck 3 (⟨b3', e3, (heldV L.xs o.g)⟩ : SIn) :: fam 3 S.p :: fam 3 S.q :: Ck.star [ol 40 S.la S.lc (S.ls.map DL.pd), ol 58 S.ra S.rc (S.ls.map DL.pr)] :: Ck.star [ol 39 S.xa S.xc S.x, ol 39 S.ya S.yc S.y, fam 34 S.x, fam 34 S.y] :: stars oDL (S.ls.eraseIdx k) :: H) ?_ (fam_two.trans (Ent.head fam_two))
    refine Ent.cons (by first | exact rmq | exact rm) (Ent.cons (by first | exact rmq | exact rm) (Ent.cons (by first | exact rmq | exact rm) (Ent.cons (by first | exact rmq | exact rm) (Ent.cons (by first | exact rmq | exact rm) (Ent.cons (by first | exact rmq | exact rm) (by first | exact entq | exact ent))))))

  clear t3 eq
  refine sx ?_
  refine s_if rfl (fun t5 => ?_) (fun t5 => ?_)
  · clear t4
    refine s_ent _ ex ?_
    refine sx ?_
    refine s_call rfl (dlives_s (xs := L.xs) (by omega)) ?_
    rintro _ _ ⟨a2, c2, rfl, rfl⟩
    refine ⟨chk_seq, ?_⟩
    refine sx ?_
    refine s_entL (.hb L.r 73 [.slice L.b L.xs.length L.e] :: ol 34 L.b L.e L.xs :: ol 34 a2 c2 L.xs :: .hb L.d 63 [.slice L.a L.xs.length L.c] :: ol 34 L.a L.c L.xs :: .hb W 30 [.slice S.la (S.ls.map DL.pd).length S.lc, .slice S.ra (S.ls.map DL.pr).length S.rc, .slice S.pa S.p.length S.pc, .slice S.qa S.q.length S.qc, .slice S.xa S.x.length S.xc, .slice S.ya S.y.length S.yc, .int .i64 S.n] :: ol 39 S.xa S.xc S.x :: ol 39 S.ya S.yc S.y :: fam 34 S.x :: fam 34 S.y :: .hb b3 37 o.cells :: Ck.star [ol 40 S.la S.lc (S.ls.map DL.pd), ol 58 S.ra S.rc (S.ls.map DL.pr)] :: Ck.star [ol 47 S.pa S.pc S.p, ol 47 S.qa S.qc S.q, fam 3 S.p, fam 3 S.q] :: stars oDL (S.ls.eraseIdx k) :: H) ?he2 ?_
    case he2 => exact Ent.cons (by first | exact rmq | exact rm) (Ent.cons (by first | exact rmq | exact rm) (Ent.head (Ent.head (Ent.head Ent.refl))))
    refine s_call rfl (rlives_s (xs := L.xs) (by omega)) ?_
    rintro _ _ ⟨b2, e2, rfl, rfl⟩
    refine ⟨chk_seq, ?_⟩
    refine sx ?_
    refine s_entL (.hb W 30 [.slice S.la (S.ls.map DL.pd).length S.lc, .slice S.ra (S.ls.map DL.pr).length S.rc, .slice S.pa S.p.length S.pc, .slice S.qa S.q.length S.qc, .slice S.xa S.x.length S.xc, .slice S.ya S.y.length S.yc, .int .i64 S.n] :: ol 39 S.xa S.xc S.x :: ol 39 S.ya S.yc S.y :: ol 34 a2 c2 L.xs :: ol 34 b2 e2 L.xs :: .hb L.d 63 [.slice L.a L.xs.length L.c] :: ol 34 L.a L.c L.xs :: .hb L.r 73 [.slice L.b L.xs.length L.e] :: ol 34 L.b L.e L.xs :: fam 34 S.x :: fam 34 S.y :: .hb b3 37 o.cells :: Ck.star [ol 40 S.la S.lc (S.ls.map DL.pd), ol 58 S.ra S.rc (S.ls.map DL.pr)] :: Ck.star [ol 47 S.pa S.pc S.p, ol 47 S.qa S.qc S.q, fam 3 S.p, fam 3 S.q] :: stars oDL (S.ls.eraseIdx k) :: H) ?hf2 ?_
    case hf2 => exact Ent.cons (by first | exact rmq | exact rm) (Ent.cons (by first | exact rmq | exact rm) (Ent.cons (by first | exact rmq | exact rm) (by first | exact entq | exact ent)))
    refine s_call rfl (lives_s (p := S.x) (q := S.y) (xs := L.xs) (by exact rsl) (by exact rsl) (by first | omega | (simp only [List.length_append, List.length_cons, List.length_nil]; omega)) (by first | omega | (simp only [List.length_append, List.length_cons, List.length_nil]; omega))) ?_
    rintro _ _ ⟨rfl, pa2, pc2, qa2, qc2, n2, rfl⟩
    refine ⟨chk_seq, ?_⟩
    refine sx ?_
    refine s_entL (.hb L.d 63 [.slice L.a L.xs.length L.c] :: ol 34 L.a L.c L.xs :: .hb L.r 73 [.slice L.b L.xs.length L.e] :: ol 34 L.b L.e L.xs :: .hb W 30 [.slice S.la (S.ls.map DL.pd).length S.lc, .slice S.ra (S.ls.map DL.pr).length S.rc, .slice S.pa S.p.length S.pc, .slice S.qa S.q.length S.qc, .slice pa2 (S.x ++ [(⟨a2, c2, L.xs⟩ : SLf)]).length pc2, .slice qa2 (S.y ++ [(⟨b2, e2, L.xs⟩ : SLf)]).length qc2, .int .i64 n2] :: ol 39 pa2 pc2 (S.x ++ [(⟨a2, c2, L.xs⟩ : SLf)]) :: ol 39 qa2 qc2 (S.y ++ [(⟨b2, e2, L.xs⟩ : SLf)]) :: ol 34 a2 c2 L.xs :: ol 34 b2 e2 L.xs :: fam 34 S.x :: fam 34 S.y :: .hb b3 37 o.cells :: Ck.star [ol 40 S.la S.lc (S.ls.map DL.pd), ol 58 S.ra S.rc (S.ls.map DL.pr)] :: Ck.star [ol 47 S.pa S.pc S.p, ol 47 S.qa S.qc S.q, fam 3 S.p, fam 3 S.q] :: stars oDL (S.ls.eraseIdx k) :: H) (by first | exact entq | exact ent) ?_
    refine s_call rfl (dlives_s (xs := L.xs) (by omega)) ?_
    rintro _ _ ⟨a3, c3, rfl, rfl⟩
    refine ⟨chk_seq, ?_⟩
    refine sx ?_
    refine s_entL (.hb L.r 73 [.slice L.b L.xs.length L.e] :: ol 34 L.b L.e L.xs :: ol 34 a3 c3 L.xs :: .hb L.d 63 [.slice L.a L.xs.length L.c] :: ol 34 L.a L.c L.xs :: .hb W 30 [.slice S.la (S.ls.map DL.pd).length S.lc, .slice S.ra (S.ls.map DL.pr).length S.rc, .slice S.pa S.p.length S.pc, .slice S.qa S.q.length S.qc, .slice pa2 (S.x ++ [(⟨a2, c2, L.xs⟩ : SLf)]).length pc2, .slice qa2 (S.y ++ [(⟨b2, e2, L.xs⟩ : SLf)]).length qc2, .int .i64 n2] :: ol 39 pa2 pc2 (S.x ++ [(⟨a2, c2, L.xs⟩ : SLf)]) :: ol 39 qa2 qc2 (S.y ++ [(⟨b2, e2, L.xs⟩ : SLf)]) :: ol 34 a2 c2 L.xs :: ol 34 b2 e2 L.xs :: fam 34 S.x :: fam 34 S.y :: .hb b3 37 o.cells :: Ck.star [ol 40 S.la S.lc (S.ls.map DL.pd), ol 58 S.ra S.rc (S.ls.map DL.pr)] :: Ck.star [ol 47 S.pa S.pc S.p, ol 47 S.qa S.qc S.q, fam 3 S.p, fam 3 S.q] :: stars oDL (S.ls.eraseIdx k) :: H) ?he3 ?_
    case he3 => exact Ent.cons (by first | exact rmq | exact rm) (Ent.cons (by first | exact rmq | exact rm) (Ent.head (Ent.head (Ent.head Ent.refl))))
    refine s_call rfl (rlives_s (xs := L.xs) (by omega)) ?_
    rintro _ _ ⟨b3', e3, rfl, rfl⟩
    refine ⟨chk_seq, ?_⟩
    refine sx ?_
    refine s_entL (.hb W 30 [.slice S.la (S.ls.map DL.pd).length S.lc, .slice S.ra (S.ls.map DL.pr).length S.rc, .slice S.pa S.p.length S.pc, .slice S.qa S.q.length S.qc, .slice pa2 (S.x ++ [(⟨a2, c2, L.xs⟩ : SLf)]).length pc2, .slice qa2 (S.y ++ [(⟨b2, e2, L.xs⟩ : SLf)]).length qc2, .int .i64 n2] :: ol 39 pa2 pc2 (S.x ++ [(⟨a2, c2, L.xs⟩ : SLf)]) :: ol 39 qa2 qc2 (S.y ++ [(⟨b2, e2, L.xs⟩ : SLf)]) :: ol 34 a3 c3 L.xs :: ol 34 b3' e3 L.xs :: ol 34 a2 c2 L.xs :: ol 34 b2 e2 L.xs :: .hb L.d 63 [.slice L.a L.xs.length L.c] :: ol 34 L.a L.c L.xs :: .hb L.r 73 [.slice L.b L.xs.length L.e] :: ol 34 L.b L.e L.xs :: fam 34 S.x :: fam 34 S.y :: .hb b3 37 o.cells :: Ck.star [ol 40 S.la S.lc (S.ls.map DL.pd), ol 58 S.ra S.rc (S.ls.map DL.pr)] :: Ck.star [ol 47 S.pa S.pc S.p, ol 47 S.qa S.qc S.q, fam 3 S.p, fam 3 S.q] :: stars oDL (S.ls.eraseIdx k) :: H) ?hf3 ?_
    case hf3 => exact Ent.cons (by first | exact rmq | exact rm) (Ent.cons (by first | exact rmq | exact rm) (Ent.cons (by first | exact rmq | exact rm) (by first | exact entq | exact ent)))
    refine s_call rfl (lives_s (p := (S.x ++ [(⟨a2, c2, L.xs⟩ : SLf)])) (q := (S.y ++ [(⟨b2, e2, L.xs⟩ : SLf)])) (xs := L.xs) (by exact rsl) (by exact rsl) (by first | omega | (simp only [List.length_append, List.length_cons, List.length_nil]; omega)) (by first | omega | (simp only [List.length_append, List.length_cons, List.length_nil]; omega))) ?_
    rintro _ _ ⟨rfl, pa3, pc3, qa3, qc3, n3, rfl⟩
    refine ⟨chk_seq, ?_⟩
    refine sx ?_
    refine s_callV rfl (dcountR_s (n := L.xs.length) (by exact rch)) ?_
    refine sx ?_
    refine s_callV rfl (rcountR_s (n := L.xs.length) (by exact rch)) ?_
    refine sx ?_
    have f1 : S.x ++ [(⟨a2, c2, L.xs⟩ : SLf)] ++ [(⟨a3, c3, L.xs⟩ : SLf)] = S.x ++ [(⟨a2, c2, L.xs⟩ : SLf), (⟨a3, c3, L.xs⟩ : SLf)] := by simp
    have f2 : S.y ++ [(⟨b2, e2, L.xs⟩ : SLf)] ++ [(⟨b3', e3, L.xs⟩ : SLf)] = S.y ++ [(⟨b2, e2, L.xs⟩ : SLf), (⟨b3', e3, L.xs⟩ : SLf)] := by simp
    rw [f1, f2]
    refine s_ret1 rfl rfl ⟨rfl, { S with xa := pa3, xc := pc3, x := S.x ++ [(⟨a2, c2, L.xs⟩ : SLf), (⟨a3, c3, L.xs⟩ : SLf)], ya := qa3, yc := qc3, y := S.y ++ [(⟨b2, e2, L.xs⟩ : SLf), (⟨b3', e3, L.xs⟩ : SLf)], n := n3, ls := S.ls.set k L }, ⟨hS.set (L' := L) ⟨hLs.1, by omega⟩, hS.pq, by simp only [List.map_append, hS.xy]; rfl, fun s h => Nat.le_succ_of_le (hS.rp s h), fun s h => (List.mem_append.1 h).elim (fun h => Nat.le_succ_of_le (hS.rx s h)) (fun h => by simp only [List.mem_cons, List.not_mem_nil, or_false] at h; rcases h with rfl | rfl <;> (simp only; omega))⟩, fun h => absurd h t1, fun _ => ⟨by simp, by simp only [DW.out, List.length_append, List.length_cons, List.length_nil]; omega⟩, rfl⟩ (he := ?_)
    refine Ent.trans ?_ (dW_xy (ps := [(⟨a2, c2, L.xs⟩ : SLf), (⟨a3, c3, L.xs⟩ : SLf)]) (qs := [(⟨b2, e2, L.xs⟩ : SLf), (⟨b3', e3, L.xs⟩ : SLf)]) hL rfl rfl)
    refine Ent.cons (by first | exact rmq | exact rm) (Ent.cons (by first | exact rmq | exact rm) (Ent.cons (by first | exact rmq | exact rm) (Ent.cons (by first | exact rmq | exact rm) ?_)))
    refine Ent.head (Ent.head (Ent.head ?_))
    refine Ent.trans (H' := Row.ck 34 (⟨a2, c2, L.xs⟩ : SLf) :: Row.ck 34 (⟨a3, c3, L.xs⟩ : SLf) :: Row.ck 34 (⟨b2, e2, L.xs⟩ : SLf) :: Row.ck 34 (⟨b3', e3, L.xs⟩ : SLf) :: fam 34 S.x :: fam 34 S.y :: Ck.star [ol 40 S.la S.lc (S.ls.map DL.pd), ol 58 S.ra S.rc (S.ls.map DL.pr)] :: Ck.star [ol 47 S.pa S.pc S.p, ol 47 S.qa S.qc S.q, fam 3 S.p, fam 3 S.q] :: stars oDL (S.ls.eraseIdx k) :: H) ?_ (fam_two.trans (Ent.head fam_two))
    refine Ent.cons (by first | exact rmq | exact rm) (Ent.cons (by first | exact rmq | exact rm) (Ent.cons (by first | exact rmq | exact rm) (Ent.cons (by first | exact rmq | exact rm) (Ent.cons (by first | exact rmq | exact rm) (Ent.cons (by first | exact rmq | exact rm) (by first | exact entq | exact ent))))))

  refine sx ?_
  refine s_ret1 rfl rfl ⟨rfl, { S with ls := S.ls.set k L }, ⟨hS.set (L' := L) ⟨hLs.1, by omega⟩, hS.pq, hS.xy, fun s h => Nat.le_succ_of_le (hS.rp s h), fun s h => Nat.le_succ_of_le (hS.rx s h)⟩, fun h => absurd h t1, fun _ => ⟨by simp, by simp⟩, rfl⟩ (he := ?_)
  exact Ent.trans (by first | exact entq | exact ent) (dW_put (L := L) (L' := L) hL rfl rfl)
end Go.Sx
