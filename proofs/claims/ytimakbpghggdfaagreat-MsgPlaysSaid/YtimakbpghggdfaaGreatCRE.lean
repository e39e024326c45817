/- Part of a proof: a call of the script is asked of both. -/
import Derived.Test.YtimakbpghggdfaaGreatCRD
import Derived.Test.YtimakbpghggdfaaGreatCMPj
import Derived.Test.YtimakbpghggdfaaGreatCPR
import Derived.Test.YtimakbpghggdfaaGreatCYB
import Derived.Test.YtimakbpghggdfaaGreatCZI
import Derived.Test.YtimakbpghggdfaaGreatCZLj
namespace Go.Sx
open Go Go.Proofs
set_option maxRecDepth 10000
variable {w0 : World} {H : List Ck}
/-- A call: its kind, a size, entries, messages, a key, a range. -/
structure MOp where
  k : Int
  sz : Int
  la : Option Addr
  lc : Nat
  ls : List KV
  ma : Option Addr
  mc : Nat
  ms : List Mg
  ka : Option Addr
  kc : Nat
  key : Bs
  r : Rg
@[reducible] def MOp.cells (o : MOp) : List Value := [.int .i64 o.k, .int .i64 o.sz, .slice o.la o.ls.length o.lc, .slice o.ma o.ms.length o.mc, .slice o.ka o.key.length o.kc, .slice o.r.la o.r.lo.length o.r.lc, .slice o.r.ha o.r.hi.length o.r.hc, .bool o.r.all]
instance : Cel MOp := ⟨8, MOp.cells, fun _ => rfl, fun _ => rfl, by decide⟩
instance : ElT Tryz.prog 71 MOp := ⟨trivial⟩
structure RMop (w0 : World) (H : List Ck) (o : MOp) : Prop where
  l : RSl w0 H o.la o.lc o.ls
  le : ∀ e ∈ o.ls, REe w0 H e
  m : RMs w0 H o.ma o.mc o.ms
  k : RBy w0 H o.ka o.kc o.key
  r : RRg w0 H o.r
theorem RMop.ent {o : MOp} {H' : List Ck} (h : RMop w0 H' o) (g : Ent H H') : RMop w0 H o := ⟨h.l.ent g, fun e he => (h.le e he).ent g, h.m.ent g, h.k.ent g, h.r.ent g⟩
def szO (o : MOp) : Nat := sumE o.ls + sumM (o.ms.map Mg.d) + o.key.length + o.r.lo.length + o.r.hi.length
/-- Both say the same. -/
structure SameO (x y : MOp) : Prop where
  l : x.ls.map KV.p = y.ls.map KV.p
  m : x.ms.map Mg.d = y.ms.map Mg.d
  k : x.key = y.key
  r : x.r.d = y.r.d
theorem sumE_p : ∀ {l m : List KV}, l.map KV.p = m.map KV.p → sumE l = sumE m
  | [], [], _ => rfl
  | [], _ :: _, h => by simp at h
  | _ :: _, [], h => by simp at h
  | a :: l, b :: m, h => by
    simp only [List.map_cons, List.cons.injEq, KV.p, Prod.mk.injEq] at h
    have := sumE_p (l := l) (m := m) h.2
    simp only [sumE, List.map_cons, List.sum_cons] at this ⊢
    rw [this, h.1.1, h.1.2]
theorem SameO.sz {x y : MOp} (h : SameO x y) : szO x = szO y := by
  have h1 : x.r.lo = y.r.lo ∧ x.r.hi = y.r.hi := by
    have := h.r
    simp only [Rg.d, Prod.mk.injEq] at this
    exact ⟨this.1, this.2.1⟩
  simp only [szO, sumE_p h.l, h.m, h.k, h1.1, h1.2]
theorem sumE_mem {l : List KV} {e : KV} (h : e ∈ l) : 6 + e.k.length + e.v.length ≤ sumE l := by
  induction l with
  | nil => cases h
  | cons x l ih =>
    simp only [sumE, List.map_cons, List.sum_cons] at ih ⊢
    rcases List.mem_cons.1 h with rfl | h
    · omega
    · have := ih h
      omega
theorem sumM_memD {l : List MD} {m : MD} (h : m ∈ l) : 13 + m.lo.length + m.hi.length + m.v.length ≤ sumM l := by
  induction l with
  | nil => cases h
  | cons a l ih =>
    have e : lenM a = 13 + a.lo.length + a.hi.length + a.v.length := rfl
    simp only [sumM, List.map_cons, List.sum_cons] at ih ⊢
    rcases List.mem_cons.1 h with rfl | h
    · omega
    · have := ih h
      omega
structure ZMop (o : MOp) : Prop where
  l : ∀ e ∈ o.ls, e.k.length ≤ 2147483647 ∧ e.v.length ≤ 2147483647
  m : ∀ m ∈ o.ms, m.lo.length ≤ 2147483647 ∧ m.hi.length ≤ 2147483647 ∧ m.v.length ≤ 2147483647
  k : o.key.length ≤ 2147483647
  r : o.r.lo.length ≤ 2147483647 ∧ o.r.hi.length ≤ 2147483647
  nl : 6 * o.ls.length ≤ sumE o.ls
  nm : 13 * o.ms.length ≤ sumM (o.ms.map Mg.d)
  s : sumE o.ls + sumM (o.ms.map Mg.d) ≤ szO o
  sk : o.key.length ≤ szO o
  sm : sumM (o.ms.map Mg.d) ≤ szO o
theorem zmop {o : MOp} (h : szO o ≤ 2147483647) : ZMop o := by
  have h0 : szO o = sumE o.ls + sumM (o.ms.map Mg.d) + o.key.length + o.r.lo.length + o.r.hi.length := rfl
  have h1 := sumE_len o.ls
  have h2 := sumM_len (o.ms.map Mg.d)
  rw [List.length_map] at h2
  refine ⟨fun e he => ?_, fun m hm => ?_, by omega, by omega, h1, h2, by omega, by omega, by omega⟩
  · have := sumE_mem he
    omega
  · have := sumM_memD (List.mem_map_of_mem (f := Mg.d) hm)
    simp only at this
    omega
theorem getM_val {key v : Bs} : ∀ {l : List MD}, getM l key = some (some v) → ∃ m ∈ l, m.lo = key ∧ m.v = v
  | [], h => by simp [getM] at h
  | m :: r, h => by
    simp only [getM] at h
    cases hg : getM r key with
    | some o =>
      rw [hg] at h
      simp only [Option.some.injEq] at h
      subst h
      obtain ⟨m', h1, h2⟩ := getM_val hg
      exact ⟨m', List.mem_cons_of_mem _ h1, h2⟩
    | none =>
      rw [hg] at h
      simp only at h
      by_cases hb : hasB (saidR m) key = true
      · rw [if_pos hb] at h
        by_cases hk : m.kd = 1
        · rw [if_pos hk] at h
          simp only [Option.some.injEq] at h
          rw [said_one (.inl hk), has_one] at hb
          exact ⟨m, List.mem_cons_self, hb.symm, h⟩
        · rw [if_neg hk] at h
          simp at h
      · rw [if_neg hb] at h
        cases h
theorem valM_sz {l : List MD} {key : Bs} {K : Nat} (h : ∀ m ∈ l, m.v.length ≤ K) : (valM (getM l key)).length ≤ K := by
  cases hg : getM l key with
  | none => exact Nat.zero_le _
  | some o =>
    cases o with
    | none => exact Nat.zero_le _
    | some v =>
      obtain ⟨m, h1, _, h3⟩ := getM_val hg
      rw [show valM (some (some v)) = v from rfl, ← h3]
      exact h m h1
theorem app_sz {l out : List KV} {ms : List MD} {K : Nat} (h : IsApp l ms out) (hl : ∀ e ∈ l, e.k.length ≤ K ∧ e.v.length ≤ K) (hm : ∀ m ∈ ms, m.lo.length ≤ K ∧ m.v.length ≤ K) : ∀ e ∈ out, e.k.length ≤ K ∧ e.v.length ≤ K := by
  intro e he
  have h1 := (h.eq e.k e.v).1 ⟨e, he, rfl, rfl⟩
  cases hg : getM ms e.k with
  | none =>
    rw [hg] at h1
    obtain ⟨e', h2, h3, h4⟩ := getE_some (show getE l e.k = some e.v from h1)
    rw [← h3, ← h4]
    exact hl e' h2
  | some o =>
    rw [hg] at h1
    have h1 : o = some e.v := h1
    subst h1
    obtain ⟨m, h2, h3, h4⟩ := getM_val hg
    rw [← h3, ← h4]
    exact hm m h2
abbrev AskR (B : Ob) (n : Int) (cnt rows z : Nat) (H : List Ck) : Value → List Ck → Prop := fun v H' => ∃ B' L' n' cnt', v = .bool true ∧ B'.k = B.k ∧ LsOk B' L' n' cnt' (rows + 1) ∧ n ≤ n' ∧ n' ≤ n + 2251799813685248 ∧ cnt' ≤ cnt + 1 + z ∧ H' = B'.ck :: .star L'.X :: H
theorem mean_allP {l : List MD} {ps : List Pc} (h : IsMean l (ps.map Pc.d)) : ∀ p ∈ ps, p.g.all = false := fun p hp => by
  have h1 := h.1.1 p.d (List.mem_map_of_mem hp)
  unfold okP at h1
  split at h1
  · have h2 : (p.g.lo, p.g.hi, p.g.all) = t30 := h1
    simp only [t30, Prod.mk.injEq] at h2
    exact h2.2.2
  · exact h1.2.2.2
theorem md_sz {ls : List Mg} {l : List MD} {K : Nat} (h : ls.map Mg.d = l) (hl : ∀ m ∈ l, m.lo.length ≤ K ∧ m.hi.length ≤ K ∧ m.v.length ≤ K) : ∀ m ∈ ls, m.lo.length ≤ K ∧ m.hi.length ≤ K ∧ m.v.length ≤ K := fun m hm => hl m.d (by rw [← h]; exact List.mem_map_of_mem hm)
set_option maxHeartbeats 8000000 in
theorem asks_s {B : Ob} {L : LsT} {n : Int} {cnt rows : Nat} (h : LsOk B L n cnt rows) {x y : MOp} (hx : RMop w0 H x) (hy : RMop w0 H y) (hs : SameO x y) (hz : szO y ≤ 2147483647) (hc : cnt ≤ 2990000000000) (hrw : rows ≤ 2932031007400) (hn : 0 ≤ n ∧ n ≤ 9007199254740992) :
    FnS Tryz.prog w0 (B.ck :: .star L.X :: H) 64 #[.pointer (some ⟨B.k, 0, none⟩), .agg x.cells.toArray, .agg y.cells.toArray] (AskR B n cnt rows (szO y) H) := by
  have zy := zmop hz
  have zx := zmop (o := x) (by rw [hs.sz]; exact hz)
  have hszx := hs.sz
  have hmx : ∀ m ∈ x.ms, m.lo.length ≤ 140737488355327 ∧ m.hi.length ≤ 140737488355327 ∧ m.v.length ≤ 140737488355328 := fun m hm => by have := zx.m m hm; omega
  have hmy : ∀ m ∈ y.ms, m.lo.length ≤ 140737488355327 ∧ m.hi.length ≤ 140737488355327 ∧ m.v.length ≤ 140737488355328 := fun m hm => by have := zy.m m hm; omega
  have hsame : LsOk B L n cnt (rows + 1) := ⟨h.ok, h.sf, Nat.le_succ_of_le h.rw, h.se, h.sm, h.sp⟩
  refine fns_enter Tryz.func64 rfl rfl rfl ?_
  refine sx ?_
  refine s_boxA rfl fun b4 => ?_
  refine sx ?_
  refine s_boxA rfl fun b5 => ?_
  have hx4 : RMop w0 (.hb b5 71 y.cells :: .hb b4 71 x.cells :: B.ck :: .star L.X :: H) x := hx.ent (Ent.dropL [_, _, _, _])
  have hy4 : RMop w0 (.hb b5 71 y.cells :: .hb b4 71 x.cells :: B.ck :: .star L.X :: H) y := hy.ent (Ent.dropL [_, _, _, _])
  refine sx ?_
  refine s_if rfl (fun t1 => ?_) (fun t1 => ?_)
  · -- Check, Bytes
    have c1 := mcheck_s (size := y.sz) hx4.m
    have c2 := rmcheck_s (size := y.sz) hy4.m
    have c3 := mbytes_s hx4.m.sl (by have := zx.sm; omega)
    have c4 := rmbytes_s hy4.m.sl (by have := zy.sm; omega)
    rw [hs.m] at c1 c3
    refine sx ?_
    refine s_drH [.hb b5 71 y.cells, .hb b4 71 x.cells] (.one true 0 (.one true 1 (.one true 2 (.one true 3 (.one true 5 (.one true 6 (.one true 7 (.one true 8 (.one false 4 (.one false 9 (.one true 10 (.one true 11 (.one true 12 (.one true 13 (.one true 15 (.one true 16 (.one false 14 (.one false 17 (.one true 18 (.one true 19 (.one true 20 .nil))))))))))))))))))))) mixed (by kernel_rfl) ?_ (he := by exact ent)
    refine sx ?_
    refine s_callV rfl c1 ?_
    refine sx ?_
    refine s_callV rfl c2 ?_
    refine sx ?_
    refine s_callV rfl c3 ?_
    refine sx ?_
    refine s_callV rfl c4 ?_
    refine sx ?_
    exact s_ret1 rfl rfl ⟨B, L, n, cnt, rfl, rfl, hsame, Int.le_refl _, by omega, by omega, rfl⟩ (by exact entq)
  refine sx ?_
  refine s_if rfl (fun t2 => ?_) (fun t2 => ?_)
  · -- Apply
    refine sx ?_
    refine s_drH [.hb b5 71 y.cells, .hb b4 71 x.cells] (.one true 0 (.one true 1 (.one true 2 (.one true 3 (.one true 4 (.one true 6 (.one true 7 (.one true 8 (.one true 9 (.one false 5 (.one false 10 (.one false 11 (.one true 12 .nil))))))))))))) mixed (by kernel_rfl) ?_ (he := by exact ent)
    refine sx ?_
    refine s_call rfl (apply_s (es := x.ls) (ms := x.ms) hx4.l hx4.le hx4.m (by have := zx.nl; have := zx.nm; have := zx.s; omega) (fun m hm => by have := hmx m hm; omega) (fun e he => by have := zx.l e he; omega)) ?_
    rintro _ _ ⟨a1, o1, rfl, ha1, hl1, rfl⟩
    refine ⟨chk_held (by exact ent), ?_⟩
    refine sx ?_
    refine s_call rfl (rapply_s (es := y.ls) (ms := y.ms) hy4.l.tl.tl (fun e he => (hy4.le e he).tl.tl) hy4.m.tl.tl (by have := zy.nl; have := zy.nm; have := zy.s; omega) (fun m hm => by have := hmy m hm; omega) (fun e he => by have := zy.l e he; omega)) ?_
    rintro _ _ ⟨a2, c2, o2, rfl, ha2, hl2, rfl⟩
    refine ⟨chk_held (by exact ent), ?_⟩
    have h12 : o1.map KV.p = o2.map KV.p := ha1.uniq ha2 fun key => by rw [getE_p hs.l, hs.m]
    have hlo : o1.length = o2.length := by simpa using congrArg List.length h12
    have hso := app_sz (K := 2147483647) ha2 zy.l (fun m hm => by
      obtain ⟨m', h1, rfl⟩ := List.mem_map.1 hm
      have := zy.m m' h1
      exact ⟨this.1, this.2.2⟩)
    have q1 := zy.nl
    have q2 := zy.nm
    have q3 := zy.s
    refine sx ?_
    refine s_entL (B.ck :: .star L.X :: ol 31 a1 o1.length o1 :: stars oKVs o1 :: ol 31 a2 c2 o2 :: stars oKVs o2 :: .hb b5 71 y.cells :: .hb b4 71 x.cells :: H) (by exact entq) ?_
    refine s_call rfl (lsEntries_s h RSl.hd (fun e he => (REe.st he).tl) h12 (fun e he => by have := hso e he; omega) (by omega) (by omega) hrw hn) ?_
    rintro _ _ ⟨B', L', z, rfl, hk', hok', hz1, hz2, rfl⟩
    refine ⟨chk_held (by exact ent), ?_⟩
    refine sx ?_
    exact s_ret1 rfl rfl ⟨B', L', n + 2 * z, cnt + 2 * o1.length, rfl, hk', hok', by omega, by omega, by omega, rfl⟩ (by exact entq)
  refine sx ?_
  refine s_if rfl (fun t3 => ?_) (fun t3 => ?_)
  · refine sx ?_
    obtain ⟨g, hg⟩ : ∃ g, g = getM (x.ms.map Mg.d) x.key := ⟨_, rfl⟩
    have hg2 : g = getM (y.ms.map Mg.d) y.key := by rw [hg, hs.m, hs.k]
    have hgz : (valM g).length ≤ 2147483647 := by
      rw [hg2]
      exact valM_sz fun m hm => by
        obtain ⟨m', h1, rfl⟩ := List.mem_map.1 hm
        exact (zy.m m' h1).2.2
    have c1 := mget_s hx4.m hx4.k (fun m hm => by have := hmx m hm; omega)
    rw [← hg] at c1
    refine s_call rfl c1 ?_
    rintro _ _ ⟨va, vc, rfl, rfl⟩
    refine ⟨chk_seq, ?_⟩
    refine sx ?_
    have c2 := rget7_s (H := ob va vc (valM g) :: .hb b5 71 y.cells :: .hb b4 71 x.cells :: B.ck :: .star L.X :: H) hy4.m.tl hy4.k.tl (fun m hm => by have := hmy m hm; omega)
    rw [← hg2] at c2
    refine s_call rfl c2 ?_
    rintro _ _ ⟨wa, wc, rfl, rfl⟩
    refine ⟨chk_seq, ?_⟩
    refine sx ?_
    refine s_rw (t := 82) (v' := .pointer (some ⟨B.k, 0, none⟩)) rfl rfl ?_
    refine s_entL (ob va vc (valM g) :: B.ck :: ob wa wc (valM g) :: .hb b5 71 y.cells :: .hb b4 71 x.cells :: .star L.X :: H) (by exact entq) ?_
    refine s_call rfl (holdB_s (xs := valM g) h.ok (by omega) (by omega) (by exact rby)) ?_
    rintro _ _ ⟨B1, rfl, k1, sf1, ok1, up1, in1⟩
    refine ⟨chk_seq, ?_⟩
    have r1 : RBy w0 (B1.ck :: ob wa wc (valM g) :: .hb b5 71 y.cells :: .hb b4 71 x.cells :: .star L.X :: H) va vc (valM g) := obk_by in1
    refine sx ?_
    refine s_gT rfl (by simp) ?_
    refine sx ?_
    refine s_gT rfl (by simp) ?_
    refine sx ?_
    exact s_ret1 rfl rfl ⟨B1, L, n, cnt + 1, rfl, k1, ⟨ok1, by rw [sf1]; exact h.sf, Nat.le_succ_of_le h.rw, h.se, h.sm, h.sp⟩, Int.le_refl _, by omega, by omega, rfl⟩ (by exact entq)
  refine sx ?_
  refine s_if rfl (fun t4 => ?_) (fun t4 => ?_)
  · -- Meaning
    refine sx ?_
    refine s_drH [.hb b5 71 y.cells, .hb b4 71 x.cells] (.one true 0 (.one true 1 (.one true 2 (.one true 4 (.one true 5 (.one false 3 (.one false 6 (.one false 7 (.one true 8 .nil))))))))) mixed (by kernel_rfl) ?_ (he := by exact ent)
    refine sx ?_
    refine s_call rfl (mmeaning_s hx4.m (by have := zx.nm; have := zx.sm; omega) (fun m hm => by have := hmx m hm; omega)) ?_
    rintro _ _ ⟨a1, c1', o1, rfl, ha1, rfl⟩
    refine ⟨chk_held (by exact ent), ?_⟩
    refine sx ?_
    refine s_call rfl (rmeaningK_s (Kz := 2147483648) hy4.m.tl.tl (by have := zy.nm; have := zy.sm; omega) (fun m hm => by have := zy.m m hm; omega) (by omega)) ?_
    rintro _ _ ⟨a2, c2', o2, rfl, hl2, ha2, hso, rfl⟩
    refine ⟨chk_held (by exact ent), ?_⟩
    have h12 : o1.map Pc.d = o2.map Pc.d := ha1.uniq ha2 fun key => by rw [hs.m]
    have hlo : o1.length = o2.length := by simpa using congrArg List.length h12
    have q2 := zy.nm
    have q3 := zy.sm
    refine sx ?_
    refine s_entL (B.ck :: .star L.X :: ol 83 a1 c1' o1 :: stars oP o1 :: ol 83 a2 c2' o2 :: stars oP o2 :: .hb b5 71 y.cells :: .hb b4 71 x.cells :: H) (by exact entq) ?_
    refine s_call rfl (lsPieces_s h RSl.hd (fun e he => (RPc.st he).tl) (mean_allP ha1) h12 (fun e he => by have := hso e he; simp only [PcZ] at this; omega) (by omega) (by omega) hrw) ?_
    rintro _ _ ⟨B', L', rfl, hk', hok', rfl⟩
    refine ⟨chk_held (by exact ent), ?_⟩
    refine sx ?_
    exact s_ret1 rfl rfl ⟨B', L', n, cnt + 4 * o1.length, rfl, hk', hok', by omega, by omega, by omega, rfl⟩ (by exact entq)
  refine sx ?_
  refine s_if rfl (fun t5 => ?_) (fun t5 => ?_)
  · -- Settle
    refine sx ?_
    refine s_drH [.hb b5 71 y.cells, .hb b4 71 x.cells] (.one true 0 (.one true 1 (.one true 2 (.one true 4 (.one true 5 (.one false 3 (.one false 6 (.one false 7 (.one true 8 .nil))))))))) mixed (by kernel_rfl) ?_ (he := by exact ent)
    refine sx ?_
    refine s_call rfl (msettle_s hx4.m (by have := zx.nm; have := zx.sm; omega) (fun m hm => by have := hmx m hm; omega)) ?_
    rintro _ _ ⟨a1, c1', o1, rfl, ha1, rfl⟩
    refine ⟨chk_held (by exact ent), ?_⟩
    refine sx ?_
    refine s_call rfl (rsettle_s hy4.m.tl.tl (by have := zy.nm; have := zy.sm; omega) (fun m hm => by have := hmy m hm; omega)) ?_
    rintro _ _ ⟨a2, c2', o2, rfl, ha2, rfl⟩
    refine ⟨chk_held (by exact ent), ?_⟩
    have h12 : o1.map Mg.d = o2.map Mg.d := by rw [ha1, ha2, hs.m]
    have hso := md_sz (K := 2147483647) ha2 (fun m hm => by
      obtain ⟨m', h1, rfl⟩ := List.mem_map.1 ((setl_sub _).subset hm)
      exact zy.m m' h1)
    have hle : o2.length ≤ y.ms.length := by
      have h1 := (setl_sub (y.ms.map Mg.d)).length_le
      rw [← ha2, List.length_map, List.length_map] at h1
      exact h1
    have hlo : o1.length = o2.length := by simpa using congrArg List.length h12
    have q2 := zy.nm
    have q3 := zy.sm
    refine sx ?_
    refine s_entL (B.ck :: .star L.X :: ol 35 a1 c1' o1 :: stars oM o1 :: ol 35 a2 c2' o2 :: stars oM o2 :: .hb b5 71 y.cells :: .hb b4 71 x.cells :: H) (by exact entq) ?_
    refine s_call rfl (lsMsgs_s h RMs.stG h12 (fun e he => by have := hso e he; omega) (by omega) (by omega) hrw hn) ?_
    rintro _ _ ⟨B', L', z, rfl, hk', hok', hz1, hz2, rfl⟩
    refine ⟨chk_held (by exact ent), ?_⟩
    refine sx ?_
    exact s_ret1 rfl rfl ⟨B', L', n + 2 * z, cnt + 3 * o1.length, rfl, hk', hok', by omega, by omega, by omega, rfl⟩ (by exact entq)
  refine sx ?_
  refine s_if rfl (fun t6 => ?_) (fun t6 => ?_)
  · -- Within
    refine sx ?_
    refine s_drH [.hb b5 71 y.cells, .hb b4 71 x.cells] (.one true 0 (.one true 1 (.one true 2 (.one true 3 (.one true 4 (.one true 6 (.one true 7 (.one true 8 (.one true 9 (.one false 5 (.one false 10 (.one false 11 (.one true 12 .nil))))))))))))) mixed (by kernel_rfl) ?_ (he := by exact ent)
    refine sx ?_
    refine s_rw (t := 127) (v' := .agg x.r.cells.toArray) rfl rfl ?_
    refine s_call rfl (mwithin_s hx4.m hx4.r (by have := zx.nm; have := zx.sm; omega) (fun m hm => by have := hmx m hm; omega) (by have := zx.r; omega)) ?_
    rintro _ _ ⟨a1, c1', o1, rfl, ha1, rfl⟩
    refine ⟨chk_held (by exact ent), ?_⟩
    refine sx ?_
    refine s_rw (t := 132) (v' := .agg y.r.cells.toArray) rfl rfl ?_
    refine s_call rfl (rwithin7_s hy4.m.tl.tl hy4.r.tl.tl (by have := zy.nm; have := zy.sm; omega) (fun m hm => by have := hmy m hm; omega) (by have := zy.r; omega)) ?_
    rintro _ _ ⟨a2, c2', o2, rfl, ha2, rfl⟩
    refine ⟨chk_held (by exact ent), ?_⟩
    have h12 : o1.map Mg.d = o2.map Mg.d := by rw [ha1, ha2, hs.m, hs.r]
    have hso := md_sz (K := 2147483648) ha2 (within_len (by have := zy.r; exact ⟨by show y.r.lo.length ≤ _; omega, by show y.r.hi.length ≤ _; omega⟩) (fun m hm => by
      obtain ⟨m', h1, rfl⟩ := List.mem_map.1 hm
      have := zy.m m' h1
      exact ⟨by show m'.lo.length + 1 ≤ _; omega, by show m'.hi.length ≤ _; omega⟩) (fun m hm => by
      obtain ⟨m', h1, rfl⟩ := List.mem_map.1 hm
      have := zy.m m' h1
      show m'.v.length ≤ _
      omega))
    have hle : o2.length ≤ y.ms.length := by
      have h1 := within_le y.r.d (y.ms.map Mg.d)
      rw [← ha2, List.length_map, List.length_map] at h1
      exact h1
    have hlo : o1.length = o2.length := by simpa using congrArg List.length h12
    have q2 := zy.nm
    have q3 := zy.sm
    refine sx ?_
    refine s_entL (B.ck :: .star L.X :: ol 35 a1 c1' o1 :: stars oM o1 :: ol 35 a2 c2' o2 :: stars oM o2 :: .hb b5 71 y.cells :: .hb b4 71 x.cells :: H) (by exact entq) ?_
    refine s_call rfl (lsMsgs_s h RMs.stG h12 (fun e he => by have := hso e he; omega) (by omega) (by omega) hrw hn) ?_
    rintro _ _ ⟨B', L', z, rfl, hk', hok', hz1, hz2, rfl⟩
    refine ⟨chk_held (by exact ent), ?_⟩
    refine sx ?_
    exact s_ret1 rfl rfl ⟨B', L', n + 2 * z, cnt + 3 * o1.length, rfl, hk', hok', by omega, by omega, by omega, rfl⟩ (by exact entq)
  refine sx ?_
  refine s_if rfl (fun t7 => ?_) (fun t7 => ?_)
  · -- Encode
    refine sx ?_
    have c1 := mencode_s (size := y.sz) hx4.m (by have := zx.sm; omega)
    rw [hs.m] at c1
    refine s_call rfl c1 ?_
    rintro _ _ ⟨va, vc, rfl, rfl⟩
    refine ⟨chk_seq, ?_⟩
    obtain ⟨W, hW⟩ : ∃ W, W = encL y.sz (y.ms.map Mg.d) := ⟨_, rfl⟩
    have hWl : W.length ≤ 2147483651 := by
      rw [hW]
      unfold encL
      split
      · rw [layM_len]
        unfold bytesM
        have := zy.sm
        omega
      · exact Nat.zero_le _
    refine sx ?_
    refine s_call rfl (rencode7_s (size := y.sz) hy4.m.tl (by have := zy.sm; omega)) ?_
    rintro _ _ ⟨wa, wc, rfl, rfl⟩
    rw [← hW]
    refine ⟨chk_seq, ?_⟩
    refine sx ?_
    refine s_rw (t := 155) (v' := .pointer (some ⟨B.k, 0, none⟩)) rfl rfl ?_
    refine s_entL (ob va vc W :: B.ck :: ob wa wc W :: .hb b5 71 y.cells :: .hb b4 71 x.cells :: .star L.X :: H) (by exact entq) ?_
    refine s_call rfl (holdB_s (xs := W) h.ok (by omega) (by omega) (by exact rby)) ?_
    rintro _ _ ⟨B1, rfl, k1, sf1, ok1, up1, in1⟩
    refine ⟨chk_seq, ?_⟩
    have r1 : RBy w0 (B1.ck :: ob wa wc W :: .hb b5 71 y.cells :: .hb b4 71 x.cells :: .star L.X :: H) va vc W := obk_by in1
    refine sx ?_
    exact s_ret1 rfl rfl ⟨B1, L, n, cnt + 1, rfl, k1, ⟨ok1, by rw [sf1]; exact h.sf, Nat.le_succ_of_le h.rw, h.se, h.sm, h.sp⟩, Int.le_refl _, by omega, by omega, rfl⟩ (by exact entq)
  refine sx ?_
  refine s_if rfl (fun t8 => ?_) (fun t8 => ?_)
  · -- Decode
    refine sx ?_
    refine s_call rfl (mdecode_s (size := y.sz) hx4.k (by have := zx.k; omega)) ?_
    rintro _ _ ⟨a1, c1', o1, rfl, ha1, rfl⟩
    refine ⟨chk_seq, ?_⟩
    rw [show decME y.sz x.key = decME y.sz y.key by rw [hs.k]]
    refine sx ?_
    refine s_call rfl (rdecode7_s (size := y.sz) hy4.k.tl.tl (by have := zy.k; omega)) ?_
    rintro _ _ ⟨a2, c2', o2, rfl, ha2, rfl⟩
    refine ⟨chk_seq, ?_⟩
    have h12 : o1.map Mg.d = o2.map Mg.d := by rw [ha1, ha2, hs.k]
    have hdec : ∀ l, decM y.sz y.key = some l → sumM l ≤ y.key.length := fun l hl => by
      obtain ⟨_, h2⟩ := decM_back hl
      have h3 := layM_len l
      rw [h2] at h3
      unfold bytesM at h3
      omega
    have hso := md_sz (K := 2147483647) ha2 (fun m hm => by
      cases hd : decM y.sz y.key with
      | none => rw [hd] at hm; cases hm
      | some l =>
        rw [hd] at hm
        have h1 := hdec l hd
        have h2 := sumM_memD (l := l) hm
        have := zy.k
        omega)
    have hle : 13 * o2.length ≤ y.key.length := by
      have h1 := congrArg List.length ha2
      rw [List.length_map] at h1
      cases hd : decM y.sz y.key with
      | none => rw [hd] at h1; have h1 : o2.length = 0 := h1; omega
      | some l =>
        rw [hd] at h1
        have h2 := hdec l hd
        have h3 := sumM_len l
        simp only [Option.getD_some] at h1
        omega
    have q4 := zy.sk
    have hlo : o1.length = o2.length := by simpa using congrArg List.length h12
    have q2 := zy.nm
    have q3 := zy.sm
    refine sx ?_
    refine s_entL (B.ck :: .star L.X :: ol 35 a1 c1' o1 :: stars oM o1 :: ol 35 a2 c2' o2 :: stars oM o2 :: .hb b5 71 y.cells :: .hb b4 71 x.cells :: H) (by exact entq) ?_
    refine s_call rfl (lsMsgs_s h RMs.stG h12 (fun e he => by have := hso e he; omega) (by omega) (by omega) hrw hn) ?_
    rintro _ _ ⟨B', L', z, rfl, hk', hok', hz1, hz2, rfl⟩
    refine ⟨chk_seq, ?_⟩
    refine sx ?_
    exact s_ret1 rfl rfl ⟨B', L', n + 2 * z, cnt + 3 * o1.length, rfl, hk', hok', by omega, by omega, by omega, rfl⟩ (by exact entq)
  refine sx ?_
  exact s_ret1 rfl rfl ⟨B, L, n, cnt, rfl, rfl, hsame, Int.le_refl _, by omega, by omega, rfl⟩ (by exact entq)
end Go.Sx

