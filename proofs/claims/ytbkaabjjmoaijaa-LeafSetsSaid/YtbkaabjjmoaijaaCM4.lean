/- Part of a proof: entries that are lent. -/
import Derived.Test.YtbkaabjjmoaijaaCM1
namespace Go.Sx
open Go Go.Proofs
set_option maxRecDepth 10000
variable {w0 : World} {H : List Ck}

def mk2 : Bs := [167, 168]
def kM (f : KV) : SB := ⟨f.ka, f.kc, f.k ++ mk2⟩
def vM (f : KV) : SB := ⟨f.va, f.vc, f.v ++ mk2⟩
def mkd (f : KV) : KV := { f with k := f.k ++ mk2, v := f.v ++ mk2 }
def kv0 : KV := ⟨none, 0, [], none, 0, []⟩
def kvB (b : Nat) (x : UInt8) : KV := ⟨some ⟨b, 0, none⟩, 1, [x], none, 0, []⟩
/-- A loan: where its lists lie, the entries as they are handed in. -/
structure Ln where
  la : Option Addr
  lc : Nat
  ka : Option Addr
  kc : Nat
  va : Option Addr
  vc : Nat
  fs : List KV
  b1 : Nat
  b2 : Nat
def Ln.ls (L : Ln) : List KV := L.fs ++ [kvB L.b1 1, kvB L.b2 2]
def Ln.cs (L : Ln) : List Ck := [ol 47 L.la L.lc L.ls, ol 39 L.ka L.kc (L.fs.map kM), ol 39 L.va L.vc (L.fs.map vM), .star (oKV 5 (L.fs.map mkd)), ob (some ⟨L.b1, 0, none⟩) 1 [1], ob (some ⟨L.b2, 0, none⟩) 1 [2]]
def Ln.v (L : Ln) : Value := .agg #[.slice L.la (L.fs.length + 2) L.lc, .slice L.ka L.fs.length L.kc, .slice L.va L.fs.length L.vc]

structure LendI where
  k : Nat
  ka : Option Addr
  kc : Nat
  ks : List SB
  va : Option Addr
  vc : Nat
  vs : List SB
  xs : List KV
  ms : List Ck
  fs : List KV
structure LendI.ok (i : LendI) (es : List KV) : Prop where
  hk : i.k ≤ es.length
  hf : i.fs.map KV.p = (es.map KV.p).take i.k
  hks : i.ks = i.fs.map kM
  hvs : i.vs = i.fs.map vM
  hms : i.ms = oKV 5 (i.fs.map mkd)
  hxs : i.xs = i.fs ++ List.replicate (es.length + 2 - i.k) kv0
theorem lend_s {a : Option Addr} {c : Nat} {es : List KV} (he : REn w0 H a c es) (hS : Small (es.map KV.p)) :
    FnS Try.prog w0 H 15 #[.slice a es.length c] (fun v H' => ∃ L : Ln, v = L.v ∧ L.fs.map KV.p = es.map KV.p ∧ H' = L.cs ++ H) := by
  refine fns_enter Try.func15 rfl rfl rfl ?_
  have hwl := wt_len (es.map KV.p)
  simp only [List.length_map, Small] at hwl hS
  refine sx ?_
  refine s_alloc fun b2 => ?_
  refine sx ?_
  refine s_rw (t := 9) rfl (ci (by omega : _ = ((es.length + 2 : Nat) : Int))) ?_
  refine s_make rfl rfl (by omega) fun la => ?_
  refine sx ?_
  refine s_alloc fun b3 => ?_
  refine sx ?_
  refine s_loop (fun i : LendI => [(0, .slice a es.length c), (2, .pointer (some ⟨b2, 0, none⟩)), (3, .pointer (some ⟨b3, 0, none⟩)), (4, .int .i64 i.k)])
    (fun i => .hb b3 33 [.slice (some la) (es.length + 2) (es.length + 2), .slice i.ka i.ks.length i.kc, .slice i.va i.vs.length i.vc] ::
      ol 47 (some la) (es.length + 2) i.xs :: ol 39 i.ka i.kc i.ks :: ol 39 i.va i.vc i.vs :: .star i.ms :: .hb b2 33 [.slice none 0 0, .slice none 0 0, .slice none 0 0] :: H)
    (fun i => i.ok es) (fun i => es.length - i.k) ⟨0, none, 0, [], none, 0, [], List.replicate (es.length + 2) kv0, [], []⟩ ⟨Nat.zero_le _, rfl, rfl, rfl, rfl, rfl⟩ ?_
  rintro ⟨k, ka, kc, ks, va, vc, vs, xs, ms, fs⟩ ⟨hk, hf, hks, hvs, hms, hxs⟩
  simp only at hk hf hks hvs hms hxs ⊢
  have hfl : fs.length = k := by rw [← List.length_map (f := KV.p), hf]; simp; omega
  have hkl : ks.length = k := by rw [hks]; simpa using hfl
  have hvl : vs.length = k := by rw [hvs]; simpa using hfl
  have hxl : xs.length = es.length + 2 := by rw [hxs]; simp; omega
  refine sx ?_
  refine s_if rfl (fun t1 => ?_) (fun t1 => ?_)
  · obtain ⟨e, hke⟩ := get_lt es k (by omega)
    have hew := p_wt hke
    have hk1 := he.key (List.mem_of_getElem? hke)
    have hk2 := he.val (List.mem_of_getElem? hke)
    refine sx ?_
    refine s_call rfl (marked_s (by exact rby) (by omega)) ?_
    rintro _ _ ⟨a1, c1, rfl, rfl⟩
    refine ⟨chk_seq, ?_⟩
    refine sx ?_
    refine s_call rfl (marked_s (by exact rby) (by omega)) ?_
    rintro _ _ ⟨a2, c2, rfl, rfl⟩
    refine ⟨chk_seq, ?_⟩
    refine sx ?_
    refine s_bsl [(⟨a1, c1, e.k ++ mk2⟩ : SB)] rfl rfl fun b4 => ?_
    refine s_app ?_
    intro a3 c3
    refine sx ?_
    refine s_bsl [(⟨a2, c2, e.v ++ mk2⟩ : SB)] rfl rfl fun b5 => ?_
    refine s_app ?_
    intro a4 c4
    refine sx ?_
    have hl1 : (e.k ++ [167, 168]).length = e.k.length + 2 := by simp
    have hl2 : (e.v ++ [167, 168]).length = e.v.length + 2 := by simp
    refine s_kn (Kn.by (a := a1) (xs := e.k ++ [167, 168]) (by exact rby)) fun m1 => s_kn (Kn.by (a := a2) (xs := e.v ++ [167, 168]) (by exact rby)) fun m2 => ?_
    refine sx ?_; refine s_drR (ol 47 (some la) (es.length + 2) xs) (by exact rm) (.one true 0 (.one true 1 (.one true 2 (.one true 3 (.one true 4 (.one true 5 (.one true 6 (.one true 7 (.one true 8 (.one true 9 (.one true 10 (.one true 11 (.one true 12 (.one true 13 (.one true 14 (.one false 15 .nil)))))))))))))))) mixed (by kernel_rfl) ?_; refine sx ?_
    refine s_rw (t := 48) rfl (ci (by omega : _ = ((e.k.length : Nat) : Int))) ?_
    refine sx ?_
    refine s_rw (t := 53) rfl (ci (by omega : _ = ((e.v.length : Nat) : Int))) ?_
    refine sx ?_
    refine s_setA (⟨a1, c1, e.k, a2, c2, e.v⟩ : KV) rfl rfl (by exact at_) rfl (by omega) ?_
    refine sx ?_
    refine s_again ⟨k + 1, a3, c3, ks ++ [⟨a1, c1, e.k ++ mk2⟩], a4, c4, vs ++ [⟨a2, c2, e.v ++ mk2⟩], xs.set k ⟨a1, c1, e.k, a2, c2, e.v⟩, ms ++ [ob a1 c1 (e.k ++ mk2), ob a2 c2 (e.v ++ mk2)], fs ++ [⟨a1, c1, e.k, a2, c2, e.v⟩]⟩ ⟨by show k + 1 ≤ es.length; omega, ?_, ?_, ?_, ?_, ?_⟩ (by show es.length - (k + 1) < es.length - k; omega)
    · rw [take_snoc' (map_get hke), ← hf]
      simp [KV.p]
    · rw [hks]; simp [kM]
    · rw [hvs]; simp [vM]
    · rw [hms]; simp [mkd, oKV_app, oKV_one]
    · show xs.set k _ = _
      rw [hxs, List.set_append_right _ _ (by omega), hfl, Nat.sub_self, show es.length + 2 - k = (es.length + 2 - (k + 1)) + 1 by omega, List.replicate_succ]
      simp
  · obtain rfl : k = es.length := by omega
    refine sx ?_
    refine s_bsl ([1] : Bs) rfl rfl fun b4 => ?_
    refine sx ?_
    refine s_setA (kvB b4 1) rfl rfl (by exact at_) rfl (by omega) ?_
    refine sx ?_
    refine s_rw (t := 68) rfl (ci (by omega : _ = ((es.length + 1 : Nat) : Int))) ?_
    refine s_bsl ([2] : Bs) rfl rfl fun b5 => ?_
    refine sx ?_
    refine s_setA (kvB b5 2) rfl rfl (by exact at_) rfl (by rw [List.length_set]; omega) ?_
    refine sx ?_
    have hx : (xs.set es.length (kvB b4 1)).set (es.length + 1) (kvB b5 2) = fs ++ [kvB b4 1, kvB b5 2] := by
      rw [hxs, List.set_append_right _ _ (by omega), hfl, Nat.sub_self, show es.length + 2 - es.length = 2 by omega]
      rw [show List.replicate 2 kv0 = [kv0, kv0] from rfl, List.set_cons_zero, List.set_append_right _ _ (by omega), hfl, Nat.add_sub_cancel_left]
      rfl
    rw [hx, hks, hvs, hms]
    refine s_retc rfl rfl (by exact at_) (by exact rfl) (by exact ⟨⟨some la, es.length + 2, ka, kc, va, vc, fs, b4, b5⟩, by simp only [Ln.v, List.length_map, hfl], by rw [hf, List.take_of_length_le (by simp)], rfl⟩)

theorem lend_c {a : Option Addr} {c : Nat} {es : List KV} (he : REn w0 H a c es) (hS : Small (es.map KV.p)) :
    FnS Try.prog w0 H 15 #[.slice a es.length c] (fun v H' => ∃ L : Ln, v = L.v ∧ L.fs.map KV.p = es.map KV.p ∧ H' = .star L.cs :: H) :=
  fun w hs => (lend_s he hS w hs).mono fun _ _ ⟨_, ⟨L, h1, h2, h3⟩, h4⟩ => ⟨_, ⟨L, h1, h2, rfl⟩, Sat.star.2 (by rw [← h3]; exact h4)⟩
section
variable {L : Ln} (hr : Ent H L.cs)
include hr
theorem Ln.rsl : RSl w0 H L.la L.lc L.ls := RSl.ent (H' := L.cs) RSl.hd hr
theorem Ln.rks : RSl w0 H L.ka L.kc (L.fs.map kM) := RSl.ent (H' := L.cs) (RSl.tl RSl.hd) hr
theorem Ln.rvs : RSl w0 H L.va L.vc (L.fs.map vM) := RSl.ent (H' := L.cs) (RSl.tl (RSl.tl RSl.hd)) hr
theorem Ln.rkm {f : KV} (hf : f ∈ L.fs) : RBy w0 H f.ka f.kc (f.k ++ mk2) := by
  refine RBy.ent (H' := L.cs) (RBy.tl (RBy.tl (RBy.tl ?_))) hr
  exact RBy.ent RBy.hd (Ent.mem' (oKV_key (e := mkd f) (List.mem_map.2 ⟨f, hf, rfl⟩)))
theorem Ln.rvm {f : KV} (hf : f ∈ L.fs) : RBy w0 H f.va f.vc (f.v ++ mk2) := by
  refine RBy.ent (H' := L.cs) (RBy.tl (RBy.tl (RBy.tl ?_))) hr
  exact RBy.ent RBy.hd (Ent.mem' (oKV_val (e := mkd f) (List.mem_map.2 ⟨f, hf, rfl⟩)))
theorem Ln.rk {f : KV} (hf : f ∈ L.fs) : RBy w0 H f.ka f.kc f.k := by
  have := (Ln.rkm (w0 := w0) hr hf).take (k := f.k.length) (by simp)
  rwa [List.take_left'] at this
  rfl
theorem Ln.rv {f : KV} (hf : f ∈ L.fs) : RBy w0 H f.va f.vc f.v := by
  have := (Ln.rvm (w0 := w0) hr hf).take (k := f.v.length) (by simp)
  rwa [List.take_left'] at this
  rfl
/-- What is handed in. -/
theorem Ln.ren : REn w0 H L.la L.lc L.fs := by
  refine REn.mk ?_ fun e he => ⟨Ln.rk hr he, Ln.rv hr he⟩
  have := (Ln.rsl (w0 := w0) hr).take (k := L.fs.length) (by simp [Ln.ls])
  rwa [Ln.ls, List.take_left'] at this
  rfl
theorem Ln.rb1 : RBy w0 H (some ⟨L.b1, 0, none⟩) 1 [1] := RBy.ent (H' := L.cs) (RBy.tl (RBy.tl (RBy.tl (RBy.tl RBy.hd)))) hr
theorem Ln.rb2 : RBy w0 H (some ⟨L.b2, 0, none⟩) 1 [2] := RBy.ent (H' := L.cs) (RBy.tl (RBy.tl (RBy.tl (RBy.tl (RBy.tl RBy.hd))))) hr
end

theorem stays_s {L : Ln} {a : Option Addr} {c : Nat} {es : List KV} (hr : Ent H L.cs) (he : REn w0 H a c es) (hp : L.fs.map KV.p = es.map KV.p) :
    FnV Try.prog w0 H 17 #[L.v, .slice a es.length c] (.bool true) := by
  have hn : L.fs.length = es.length := by simpa using congrArg List.length hp
  have r1 := Ln.rsl (w0 := w0) hr
  have r2 := Ln.rks (w0 := w0) hr
  have r3 := Ln.rvs (w0 := w0) hr
  have r4 := Ln.ren (w0 := w0) hr
  have r5 := Ln.rb1 (w0 := w0) hr
  have r6 := Ln.rb2 (w0 := w0) hr
  refine fns_enter Try.func17 rfl rfl rfl ?_
  refine s_kn (Kn.en he) fun l1 => s_kn (Kn.sl r1) fun l2 => ?_
  simp only [maxLen] at l1 l2
  have hls : L.ls.length = es.length + 2 := by simp [Ln.ls, hn]
  rw [Ln.v, hn]
  refine sx ?_
  refine s_boxA rfl fun b => ?_
  refine sx ?_
  refine s_rw (t := 13) (v' := .slice L.la L.fs.length L.lc) rfl (by rw [hn]) ?_
  refine s_callV rfl (same_s (by exact ren) (by exact ren)) ?_
  rw [decide_eq_true hp]
  have hm1 : L.ls[es.length]? = some (kvB L.b1 1) := by simp [Ln.ls, ← hn]
  have hm2 : L.ls[es.length + 1]? = some (kvB L.b2 2) := by simp [Ln.ls, ← hn]
  have c1 : RBy w0 H (kvB L.b1 1).ka (kvB L.b1 1).kc (kvB L.b1 1).k := r5
  have c2 : RBy w0 H (kvB L.b2 2).ka (kvB L.b2 2).kc (kvB L.b2 2).k := r6
  refine sx ?_
  refine s_loop (fun k : Nat => [(1, .slice a es.length c), (2, .pointer (some ⟨b, 0, none⟩)), (5, .int .i64 es.length), (7, .int .i64 k)]) (fun _ => .hb b 33 [.slice L.la (es.length + 2) L.lc, .slice L.ka es.length L.kc, .slice L.va es.length L.vc] :: H)
    (fun k => k ≤ es.length) (fun k => es.length - k) 0 (Nat.zero_le _) ?_
  intro k hk
  have hkl : (L.fs.map kM).length = es.length := by simpa using hn
  have hvl : (L.fs.map vM).length = es.length := by simpa using hn
  refine sx ?_
  refine s_if rfl (fun t1 => ?_) (fun t1 => ?_)
  · obtain ⟨e, hke⟩ := get_lt es k (by omega)
    obtain ⟨f, hkf⟩ := get_lt L.fs k (by omega)
    have hm := List.mem_of_getElem? hkf
    have hef : f.k = e.k ∧ f.v = e.v := by
      have h1 := map_get hkf
      rw [hp, map_get hke] at h1
      simp only [Option.some.injEq, Prod.mk.injEq] at h1
      exact ⟨h1.1.symm, h1.2.symm⟩
    have hk1 := he.key (List.mem_of_getElem? hke)
    have hk2 := he.val (List.mem_of_getElem? hke)
    have g1 : (L.fs.map kM)[k]? = some (kM f) := by simp [hkf]
    have g2 : (L.fs.map vM)[k]? = some (vM f) := by simp [hkf]
    have g3 : RBy w0 H (kM f).a (kM f).c (kM f).xs := Ln.rkm hr hm
    have g4 : RBy w0 H (vM f).a (vM f).c (vM f).xs := Ln.rvm hr hm
    refine s_kn (Kn.by (RBy.tl g3)) fun m3 => s_kn (Kn.by (RBy.tl g4)) fun m4 => ?_
    have n3 : (kM f).xs.length = e.k.length + 2 := by simp [kM, mk2, hef.1]
    have n4 : (vM f).xs.length = e.v.length + 2 := by simp [vM, mk2, hef.2]
    have x3 : (kM f).xs = e.k ++ [167, 168] := by rw [← hef.1]; rfl
    have x4 : (vM f).xs = e.v ++ [167, 168] := by rw [← hef.2]; rfl
    simp only [maxLen] at m3 m4
    refine sx ?_
    refine sx ?_; refine s_dr (.one true 0 (.one true 1 (.one true 2 (.one true 3 (.one true 4 (.one true 5 (.one true 6 (.one true 7 (.one true 8 (.one true 9 (.one true 10 (.one true 11 (.one true 12 (.one true 13 (.one true 14 (.one true 15 (.one true 16 (.one true 17 (.one true 18 (.one true 19 (.one true 20 (.one true 21 (.one true 22 (.one true 23 (.one true 24 (.one true 25 (.one true 26 (.one true 27 (.one true 28 (.one true 29 .nil)))))))))))))))))))))))))))))) mixed (by kernel_rfl) ?_; refine sx ?_
    refine s_rw (t := 58) (v' := .bool false) rfl (by rw [x3]; simp) ?_
    refine sx ?_
    refine s_ifn rfl (fun t2 => absurd x4 t2) (fun _ => ?_)
    refine sx ?_
    exact s_again (k + 1) (by omega) (by omega)
  · refine sx ?_
    exact s_ret1 rfl rfl ⟨rfl, rfl⟩
end Go.Sx
