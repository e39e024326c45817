/- Part of a proof: the law LeafSets, walked. -/
import Derived.Test.YtbkaabjjmoaijaaCNB
import Derived.Test.YtbkaabjjmoaijaaCM5
namespace Go.Sx
open Go Go.Proofs
set_option maxRecDepth 10000
variable {w0 : World} {H : List Ck}
theorem Ent.dropL {H : List Ck} : ∀ K : List Ck, Ent (K ++ H) H
  | [] => Ent.refl
  | _ :: K => Ent.tl (Ent.dropL K)
theorem REn.ent' {H' : List Ck} {a : Option Addr} {c : Nat} {es : List KV} (h : REn w0 H' a c es) (e : Ent H H') : REn w0 H a c es := fun w hs => h w (hs.ent e)
set_option maxHeartbeats 1000000 in
theorem sets_s {la : Option Addr} {lc : Nat} {es : List KV} {e : KV} {r : Rg} (he : REn w0 H la lc es) (hz : Hz es)
    (hek : RBy w0 H e.ka e.kc e.k) (hev : RBy w0 H e.va e.vc e.v) (hez : e.k.length ≤ 140737488351232 ∧ e.v.length ≤ 140737488351232) (hr1 : RBy w0 H r.la r.lc r.lo) (hr2 : RBy w0 H r.ha r.hc r.hi) :
    FnV Try.prog w0 H 9 #[.slice la es.length lc, .agg e.cells.toArray, .agg r.cells.toArray] (.bool true) := by
  refine fns_enter Try.func9 rfl rfl rfl ?_
  refine sx ?_
  refine s_boxA rfl fun b4 => ?_
  refine sx ?_
  refine s_boxA rfl fun b5 => ?_
  refine sx ?_
  refine s_callV rfl shown_s ?_
  refine sx ?_
  have hz1 : ∀ x, x ∈ [e] → x.k.length ≤ 140737488351232 ∧ x.v.length ≤ 140737488351232 := by simpa using hez
  have hup : ∀ fs : List KV, (∀ x, x ∈ fs → x.k.length ≤ 140737488351232 ∧ x.v.length ≤ 140737488351232) → wB 0 (fs.map KV.p) ≤ 400000000000000 := fun fs hf => wB_up (by decide) _ 0 (fun x hx => by
    obtain ⟨y, hy, rfl⟩ := List.mem_map.1 hx
    exact hf y hy) (by decide)
  have u1 := hup es hz
  have u2 := hup [e] hz1
  refine s_cut (ι := Bool) (fun b => [(0, .slice la es.length lc), (4, .pointer (some ⟨b4, 0, none⟩)), (5, .pointer (some ⟨b5, 0, none⟩)), (7, .bool true), (42, .bool b)])
    (fun _ => .hb b5 49 r.cells :: .hb b4 47 e.cells :: H) (fun b => b = false → ((wB 0 (es.map KV.p) : Nat) : Int) + ((wB 0 ([e].map KV.p) : Nat) : Int) ≤ 2147483647 ∧ r.lo.length ≤ 2147483647 ∧ r.hi.length ≤ 2147483647) ?_ ?_
  · refine sx ?_; refine s_dr (.one true 0 (.one true 2 (.alt (.one false 1 (.one false 3 (.one false 4 (.one true 5 (.one true 6 (.one true 7 (.one true 8 (.one true 9 (.one true 10 (.one true 11 (.one true 12 (.one true 13 (.one true 14 (.one true 15 (.one true 16 (.one true 17 (.one true 18 .nil))))))))))))))))) (.one false 3 (.one false 1 (.one false 4 (.one true 5 (.one true 6 (.one true 7 (.one true 8 (.one true 9 (.one true 10 (.one true 11 (.one true 12 (.one true 13 (.one true 14 (.one true 15 (.one true 16 (.one true 17 (.one true 18 .nil)))))))))))))))))))) mixed (by kernel_rfl) ?_; refine sx ?_
    refine s_alt ?_ ?_
    · refine s_callV rfl (weight_s (by exact ren) hz) ?_
      refine s_bsl [e] rfl rfl fun b9 => ?_
      refine s_callV rfl (weight_s (es := [e]) (REn.mk (by exact rsl) (by intro x hx; simp only [List.mem_singleton] at hx; subst hx; exact ⟨rby, rby⟩)) hz1) ?_
      refine sx ?_
      refine s_lif rfl (fun t1 => ?_) (fun t1 => ?_)
      · refine sx ?_
        exact s_mid true (fun h => by cases h)
      refine sx ?_
      refine s_lif rfl (fun t2 => ?_) (fun t2 => ?_)
      · refine sx ?_
        exact s_mid true (fun h => by cases h)
      refine sx ?_
      refine s_mid (decide ((2147483647 : Int) < r.hi.length)) (fun h => ?_)
      have := of_decide_eq_false h
      omega
    · refine s_bsl [e] rfl rfl fun b9 => ?_
      refine s_callV rfl (weight_s (by exact ren) hz) ?_
      refine s_callV rfl (weight_s (es := [e]) (REn.mk (by exact rsl) (by intro x hx; simp only [List.mem_singleton] at hx; subst hx; exact ⟨rby, rby⟩)) hz1) ?_
      refine sx ?_
      refine s_lif rfl (fun t1 => ?_) (fun t1 => ?_)
      · refine sx ?_
        exact s_mid true (fun h => by cases h)
      refine sx ?_
      refine s_lif rfl (fun t2 => ?_) (fun t2 => ?_)
      · refine sx ?_
        exact s_mid true (fun h => by cases h)
      refine sx ?_
      refine s_mid (decide ((2147483647 : Int) < r.hi.length)) (fun h => ?_)
      have := of_decide_eq_false h
      omega
  intro b hb
  refine sx ?_
  refine s_cond rfl (fun hw => ?_) (fun hw => ?_)
  · refine sx ?_
    exact s_ret1 rfl rfl ⟨rfl, rfl⟩
  obtain ⟨hb1, hb2, hb3⟩ := hb hw
  clear hb hw
  have hwt := (wB_le 0 (es.map KV.p)).1 (by omega)
  have hwe := (wB_le 0 ([e].map KV.p)).1 (by omega)
  rw [wB_eq _ _ hwt, wB_eq _ _ hwe] at hb1
  simp only [List.map_cons, List.map_nil, wt, KV.p] at hwe hb1
  have hwl := wt_len (es.map KV.p)
  rw [List.length_map] at hwl
  refine sx ?_
  refine s_call rfl (risen_s (by exact ren) (by omega)) ?_
  rintro _ _ ⟨al, cl, rfl, rfl⟩
  refine ⟨chk_seq, ?_⟩
  have hmap := risK_map es
  have hsub : ∀ x, x ∈ risG KV.k es → x ∈ es := fun x hx => (risG_mem KV.k es [] hx).resolve_left (by simp)
  have hrise : Rise ((risG KV.k es).map KV.p) := by rw [hmap]; exact rise_ris _
  have hwr : wt ((risG KV.k es).map KV.p) ≤ wt (es.map KV.p) := by rw [hmap]; exact wt_ris (es.map KV.p)
  generalize risG KV.k es = ls at hmap hsub hrise hwr
  have hll := wt_len (ls.map KV.p)
  rw [List.length_map] at hll
  have hlS : Small (ls.map KV.p) := by simp only [Small]; omega
  refine sx ?_
  refine s_boxA rfl fun b9 => ?_
  refine s_entL ((bk0 b9).ck :: ol 47 al cl ls :: .hb b5 49 r.cells :: .hb b4 47 e.cells :: H) bk0_ent ?_
  have rls : ∀ K : List Ck, REn w0 (K ++ ol 47 al cl ls :: .hb b5 49 r.cells :: .hb b4 47 e.cells :: H) al cl ls := fun K => by
    induction K with
    | nil => exact REn.sub (by exact rsl) (by exact ren) hsub
    | cons x K ih => exact REn.tl ih
  refine sx ?_
  refine s_call rfl (lend_c (rls [_]) hlS) ?_
  rintro _ _ ⟨L, rfl, hp, rfl⟩
  refine ⟨chk_seq, ?_⟩
  have hn : L.fs.length = ls.length := by simpa using congrArg List.length hp
  refine s_alloc fun b10 => ?_
  refine sx ?_
  refine s_bsl [e] rfl rfl fun b11 => ?_
  refine sx ?_
  refine s_call rfl (lend_c (es := [e]) (REn.mk (by exact rsl) (by intro x hx; simp only [List.mem_singleton] at hx; subst hx; exact ⟨rby, rby⟩)) (by simp only [Small, List.map_cons, List.map_nil, wt, KV.p]; omega)) ?_
  rintro _ _ ⟨L2, rfl, hp2, rfl⟩
  refine ⟨chk_seq, ?_⟩
  obtain ⟨f, hf⟩ : ∃ f, L2.fs = [f] := by
    have := congrArg List.length hp2
    simp only [List.length_map, List.length_cons, List.length_nil] at this
    exact List.length_eq_one_iff.1 this
  have hfp : f.p = e.p := by rw [hf] at hp2; simpa using hp2
  have hfk : f.k = e.k := congrArg Prod.fst hfp
  have hfv : f.v = e.v := congrArg Prod.snd hfp
  refine s_alloc fun b12 => ?_
  refine sx ?_
  refine s_call rfl (marked_s (xs := r.lo) (by exact rby) (by omega)) ?_
  rintro _ _ ⟨a13, c13, rfl, rfl⟩
  refine ⟨chk_seq, ?_⟩
  refine sx ?_
  refine s_call rfl (marked_s (xs := r.hi) (by exact rby) (by omega)) ?_
  rintro _ _ ⟨a14, c14, rfl, rfl⟩
  refine ⟨chk_seq, ?_⟩
  have r4 : ∀ K : List Ck, REn w0 (.star L.cs :: K) L.la L.lc L.fs := fun K => Ln.ren Ent.starOf
  refine s_knL (REn.tl (REn.tl (REn.tl (REn.tl (REn.tl (REn.tl (r4 _)))))) |> Kn.en) fun l1 => ?_
  refine s_knL (Kn.by (a := a13) (c := c13) (xs := r.lo ++ [167, 168]) (by exact rby)) fun l13 => ?_
  refine s_knL (Kn.by (a := a14) (c := c14) (xs := r.hi ++ [167, 168]) (by exact rby)) fun l14 => ?_
  simp only [maxLen, List.length_append, List.length_cons, List.length_nil] at l1 l13 l14
  refine sx ?_
  refine sx ?_; refine s_dr (.one true 0 (.one true 1 (.one true 2 (.one true 3 (.one true 4 (.one true 5 (.one true 6 (.one true 7 (.one true 8 (.one true 9 (.one true 10 (.one true 11 (.one true 12 (.one false 13 (.one false 14 .nil))))))))))))))) mixed (by kernel_rfl) ?_; refine sx ?_
  refine s_rw (t := 76) (v' := .agg (Rg.cells ⟨a13, c13, r.lo, a14, c14, r.hi, r.all⟩).toArray) rfl rfl ?_
  refine s_alloc fun b15 => ?_
  refine sx ?_
  have q0 : REn w0 (.star L2.cs :: H) L2.la L2.lc L2.fs := Ln.ren Ent.starOf
  have hx0 : L2.ls[0]? = some f := by simp [Ln.ls, hf]
  have hfs : f ∈ L2.fs := by rw [hf]; simp
  have q1 : ∀ K K' : List Ck, RSl w0 (K ++ .star L2.cs :: K') L2.la L2.lc L2.ls := fun K K' => RSl.ent (Ln.rsl (H := .star L2.cs :: K') Ent.starOf) (Ent.dropL K)
  have q2 : ∀ K K' : List Ck, RBy w0 (K ++ .star L2.cs :: K') f.ka f.kc f.k := fun K K' => RBy.ent (Ln.rk (H := .star L2.cs :: K') Ent.starOf hfs) (Ent.dropL K)
  have q3 : ∀ K K' : List Ck, RBy w0 (K ++ .star L2.cs :: K') f.va f.vc f.v := fun K K' => RBy.ent (Ln.rv (H := .star L2.cs :: K') Ent.starOf hfs) (Ent.dropL K)
  have r6 : ∀ K K' : List Ck, REn w0 (K ++ .star L.cs :: K') L.la L.lc L.fs := fun K K' => REn.ent' (r4 K') (Ent.dropL K)
  have hx2 : L2.fs.length = 1 := by rw [hf]; rfl
  have rby1 : ∀ K K' : List Ck, RBy w0 (K ++ ob a13 c13 (r.lo ++ [167, 168]) :: K') a13 c13 r.lo := fun K K' => by
    have := (RBy.ent (RBy.hd (w0 := w0) (H := K') (E := 5) (a := a13) (c := c13) (xs := r.lo ++ [167, 168])) (Ent.dropL K)).take (k := r.lo.length) (by simp)
    rwa [List.take_left' rfl] at this
  have rby2 : ∀ K K' : List Ck, RBy w0 (K ++ ob a14 c14 (r.hi ++ [167, 168]) :: K') a14 c14 r.hi := fun K K' => by
    have := (RBy.ent (RBy.hd (w0 := w0) (H := K') (E := 5) (a := a14) (c := c14) (xs := r.hi ++ [167, 168])) (Ent.dropL K)).take (k := r.hi.length) (by simp)
    rwa [List.take_left' rfl] at this
  obtain ⟨X, hX⟩ : ∃ X : List Ck, X = .hb b15 49 (Rg.cells ⟨a13, c13, r.lo, a14, c14, r.hi, r.all⟩) :: ob a14 c14 (r.hi ++ [167, 168]) :: ob a13 c13 (r.lo ++ [167, 168]) :: .hb b12 33 [.slice L2.la (L2.fs.length + 2) L2.lc, .slice L2.ka L2.fs.length L2.kc, .slice L2.va L2.fs.length L2.vc] :: .star L2.cs :: .hb b10 33 [.slice L.la (L.fs.length + 2) L.lc, .slice L.ka L.fs.length L.kc, .slice L.va L.fs.length L.vc] :: .star L.cs :: ol 47 al cl ls :: .hb b5 49 r.cells :: .hb b4 47 e.cells :: H := ⟨_, rfl⟩
  have x1 : RSl w0 X L2.la L2.lc L2.ls := by rw [hX]; exact q1 [_, _, _, _] _
  have x2 : RBy w0 X f.ka f.kc f.k := by rw [hX]; exact q2 [_, _, _, _] _
  have x3 : RBy w0 X f.va f.vc f.v := by rw [hX]; exact q3 [_, _, _, _] _
  have x4 : REn w0 X L.la L.lc L.fs := by rw [hX]; exact r6 [_, _, _, _, _, _] _
  have x5 : REn w0 X al cl ls := by rw [hX]; exact rls [_, _, _, _, _, _, _]
  have x6 : RBy w0 X a13 c13 r.lo := by rw [hX]; exact rby1 [_, _] _
  have x7 : RBy w0 X a14 c14 r.hi := by rw [hX]; exact rby2 [_] _
  have hls2 : L2.ls.length = L2.fs.length + 2 := by simp [Ln.ls]
  have hLr : Rise (L.fs.map KV.p) := by rw [hp]; exact hrise
  have hLw : wt (L.fs.map KV.p) + (1 + f.k.length + f.v.length) ≤ 2147483647 := by rw [hp, hfk, hfv]; omega
  refine s_ent ((bk0 b9).ck :: X) (by rw [hX]; exact ent) ?_
  have ask : ∀ (B : Bk) (n : Nat), B.Ok n → n ≤ 1000000000000 → FnS Try.prog w0 (B.ck :: X) 33 #[.pointer (some ⟨B.k, 0, none⟩), .slice L.la L.fs.length L.lc, .agg f.cells.toArray, .agg (Rg.cells ⟨a13, c13, r.lo, a14, c14, r.hi, r.all⟩).toArray, .slice al ls.length cl] (fun v H' => v = .bool true ∧ ∃ B' : Bk, H' = B'.ck :: X ∧ B'.k = B.k ∧ B'.Ok (n + 17179869200)) := fun B n h1 h2 =>
    asked_s (r := ⟨a13, c13, r.lo, a14, c14, r.hi, r.all⟩) h1 h2 x4 x5 hp.symm x2 x3 x6 x7 hLr hLw
  subst hX
  refine sx ?_; refine s_drR ((bk0 b9).ck) (by exact rm) (.one true 0 (.one true 1 (.one true 2 (.one true 3 (.one true 4 (.one true 5 (.one true 6 (.one true 7 (.one false 8 (.one true 9 .nil)))))))))) mixed (by kernel_rfl) ?_; refine sx ?_
  refine s_rw (t := 78) (v' := .slice L.la L.fs.length L.lc) rfl (by rw [hn]) ?_
  refine s_call rfl (ask (bk0 b9) 0 (bk0_ok b9) (by omega)) ?_
  rintro _ _ ⟨rfl, B1, rfl, hk1, ho1⟩
  refine ⟨chk_held (by exact ent), ?_⟩
  have hk1 : B1.k = b9 := hk1
  subst hk1
  refine sx ?_
  refine sx ?_; refine s_drR (B1.ck) (by exact rm) (.one true 0 (.one true 1 (.one true 2 (.one true 3 (.one true 4 (.one true 5 (.one true 6 (.one true 7 (.one false 8 (.one true 9 .nil)))))))))) mixed (by kernel_rfl) ?_; refine sx ?_
  refine s_rw (t := 87) (v' := .slice L.la L.fs.length L.lc) rfl (by rw [hn]) ?_
  refine s_call rfl (ask B1 _ ho1 (by omega)) ?_
  rintro _ _ ⟨rfl, B2, rfl, hk2, ho2⟩
  refine ⟨chk_held (by exact ent), ?_⟩
  refine sx ?_
  refine s_callV rfl (stays_s (es := ls) (by exact stE) (REn.tl x5) hp) ?_
  refine sx ?_
  refine s_bsl [e] rfl rfl fun b16 => ?_
  refine sx ?_
  refine s_callV rfl (stays_s (es := [e]) (by exact stE) (REn.mk (by exact rsl) (by intro x hx; simp only [List.mem_singleton] at hx; subst hx; exact ⟨rby, rby⟩)) hp2) ?_
  refine sx ?_
  refine s_call rfl ((turnR_s (H := B2.ck :: .hb b5 49 r.cells :: .hb b4 47 e.cells :: H) (L := L) (by rw [hp]; exact hlS)).ent (by exact ent)) ?_
  rintro _ _ ⟨a', c', now, gs, cs', rfl, hnow, hgl, hgS, ⟨hgR, hgw⟩, hgr, rfl⟩
  refine ⟨chk_seq, ?_⟩
  refine sx ?_
  refine s_rw (t := 141) (v' := .slice L.la gs.length L.lc) rfl (by rw [hgl, hn]) ?_
  rw [← hk2]
  refine s_call rfl ((asked_s (r := r) (e := e) (H := oe a' c' now :: .star cs' :: .hb b5 49 r.cells :: .hb b4 47 e.cells :: H) (es := gs) (fs := now) ho2 (by omega) (REn.tl (hgr _)) (by exact ren) hnow (by exact rby) (by exact rby) (by exact rby) (by exact rby) (hgR hLr) (by rw [hgw, hp]; omega)).ent (by exact ent)) ?_
  rintro _ _ ⟨rfl, B3, rfl, hk3, ho3⟩
  refine ⟨chk_seq, ?_⟩
  rw [← hk3]
  refine sx ?_
  refine s_call rfl (ends_s ho3 (by omega)) ?_
  rintro _ _ ⟨rfl, rfl⟩
  refine ⟨chk_seq, ?_⟩
  refine sx ?_
  exact s_ret1 rfl rfl ⟨rfl, rfl⟩
end Go.Sx
