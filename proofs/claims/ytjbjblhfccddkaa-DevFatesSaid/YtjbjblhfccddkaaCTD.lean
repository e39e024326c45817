/- Part of a proof: the device's lock; bytes in new memory; Read and Write of the device. -/
import Derived.Test.YtjbjblhfccddkaaCTC
namespace Go.Sx
open Go Go.Proofs
open Go.Conc.Locks (MuLib MuLink)
set_option maxRecDepth 10000
variable {w0 : World} {H : List Ck}
abbrev muL : MuLink := { lock := 27, unlock := 28, ilock := 37, iunlock := 38, lockSlow := 45, unlockSlow := 48, disable := 41, enable := 43, acquire := 44, relMerge := 46, cas32 := 42, add32 := 47, tMutex := 70, tIMutex := 68, tPMutex := 87, tPIMutex := 92, tPI32 := 94, tUP := 96, tNoCopy := 65, tU32 := 66 }
theorem muLib : MuLib Try.prog muL where
  f_lock := Try.func27.trans (congrArg some (by kernel_rfl))
  f_unlock := Try.func28.trans (congrArg some (by kernel_rfl))
  f_ilock := Try.func37.trans (congrArg some (by kernel_rfl))
  f_iunlock := Try.func38.trans (congrArg some (by kernel_rfl))
  f_disable := Try.func41.trans (congrArg some (by kernel_rfl))
  f_enable := Try.func43.trans (congrArg some (by kernel_rfl))
  f_acquire := Try.func44.trans (congrArg some (by kernel_rfl))
  f_relMerge := Try.func46.trans (congrArg some (by kernel_rfl))
  f_cas32 := Try.func42.trans (congrArg some (by kernel_rfl))
  f_add32 := Try.func47.trans (congrArg some (by kernel_rfl))
  underlying_tIMutex := by kernel_rfl
  runUnderlying_tIMutex := fun _ => by kernel_rfl
  sizeOf_tIMutex := fun _ => by kernel_rfl
  isAgg_tIMutex := fun _ => by kernel_rfl
  zeroValue_tIMutex := fun _ => by kernel_rfl
  underlying_tMutex := by kernel_rfl
  runUnderlying_tMutex := fun _ => by kernel_rfl
  sizeOf_tMutex := fun _ => by kernel_rfl
  isAgg_tMutex := fun _ => by kernel_rfl
  zeroValue_tMutex := fun _ => by kernel_rfl
  underlying_tPMutex := by kernel_rfl
  runUnderlying_tPMutex := fun _ => by kernel_rfl
  sizeOf_tPMutex := fun _ => by kernel_rfl
  isAgg_tPMutex := fun _ => by kernel_rfl
  zeroValue_tPMutex := fun _ => by kernel_rfl
  underlying_tPIMutex := by kernel_rfl
  runUnderlying_tPIMutex := fun _ => by kernel_rfl
  sizeOf_tPIMutex := fun _ => by kernel_rfl
  isAgg_tPIMutex := fun _ => by kernel_rfl
  zeroValue_tPIMutex := fun _ => by kernel_rfl
  underlying_tPI32 := by kernel_rfl
  runUnderlying_tPI32 := fun _ => by kernel_rfl
  sizeOf_tPI32 := fun _ => by kernel_rfl
  isAgg_tPI32 := fun _ => by kernel_rfl
  zeroValue_tPI32 := fun _ => by kernel_rfl
  underlying_tUP := by kernel_rfl
  runUnderlying_tUP := fun _ => by kernel_rfl
  sizeOf_tUP := fun _ => by kernel_rfl
  isAgg_tUP := fun _ => by kernel_rfl
  zeroValue_tUP := fun _ => by kernel_rfl
  underlying_tNoCopy := by kernel_rfl
  runUnderlying_tNoCopy := fun _ => by kernel_rfl
  sizeOf_tNoCopy := fun _ => by kernel_rfl
  isAgg_tNoCopy := fun _ => by kernel_rfl
  zeroValue_tNoCopy := fun _ => by kernel_rfl
  underlying_t21 := by kernel_rfl
  runUnderlying_t21 := fun _ => by kernel_rfl
  sizeOf_t21 := fun _ => by kernel_rfl
  isAgg_t21 := fun _ => by kernel_rfl
  zeroValue_t21 := fun _ => by kernel_rfl
  room_tIMutex := by kernel_rfl
/-- The lock is taken. -/
theorem lock_d {c : Cd} : FnS Try.prog w0 (c.on 0 H) 27 #[.pointer (some ⟨c.b, 0, none⟩)] (fun v K => v = .tuple #[] ∧ K = c.on 1 H) :=
  lock_s muLib (vs := c.cells 0) rfl At.hd
/-- .. and given back at the end. -/
theorem d_end {fn : Func} {R : Value → List Ck → Prop} {n : Nat} {l : List (Nat × Value)} {c : Cd} {v : Value} (hv : ∀ (a : Act) (ds : List Deferred) (w : World), FrOk n ds l a → (results fn a.tmps).run Try.prog w = .ok v w) (hR : R v (c.on 0 H)) {e : Exit} (he : e = .ret ∨ e = .normal) :
    SQ n [{ target := .fn (.func 28) #[], args := #[.pointer (some ⟨c.b, 0, none⟩)] }] (bodyPostD Try.prog fn (RetR (RS w0 R))) e l w0 (c.on 1 H) :=
  s_dT (L := muL) muLib (hk := inferInstanceAs (FnT Try.prog 28)) hv he (vs := c.cells 1) rfl At.hd hR Ent.refl
section
variable {fn : Func} {R : Value → List Ck → Prop} {n : Nat} {l : List (Nat × Value)} {c : Cd}
theorem d_ret2 {t u : Tmp} {v v' : Value} (hr : fn.results = #[.tmp t, .tmp u]) (hl : look l t = some v) (hl' : look l u = some v') (hR : R (.tuple #[v, v']) (c.on 0 H)) :
    SQ n [{ target := .fn (.func 28) #[], args := #[.pointer (some ⟨c.b, 0, none⟩)] }] (bodyPostD Try.prog fn (RetR (RS w0 R))) .ret l w0 (c.on 1 H) := d_end (res2 hr hl hl') hR (.inl rfl)
theorem d_ret1 {t : Tmp} {v : Value} (hr : fn.results = #[.tmp t]) (hl : look l t = some v) (hR : R v (c.on 0 H)) :
    SQ n [{ target := .fn (.func 28) #[], args := #[.pointer (some ⟨c.b, 0, none⟩)] }] (bodyPostD Try.prog fn (RetR (RS w0 R))) .ret l w0 (c.on 1 H) := d_end (res1 hr hl) hR (.inl rfl)
theorem d_ret0 (hr : fn.results = #[]) (hR : R (.tuple #[]) (c.on 0 H)) :
    SQ n [{ target := .fn (.func 28) #[], args := #[.pointer (some ⟨c.b, 0, none⟩)] }] (bodyPostD Try.prog fn (RetR (RS w0 R))) .normal l w0 (c.on 1 H) := d_end (res0 hr) hR (.inr rfl)
end
/-- Bytes in new memory. -/
abbrev NewB (a : Option Addr) (xs : Bs) (H : List Ck) : Value → List Ck → Prop := fun v K => ∃ s : SB, s.xs = xs ∧ (s.a = none → s.xs = [] ∧ s.c = 0) ∧ (a = none → s.a = none) ∧ v = s.val ∧ K = ob s.a s.c s.xs :: H
theorem bclone_s {a : Option Addr} {c : Nat} {xs : Bs} (hx : RBy w0 H a c xs) (hl : xs.length ≤ 1099511627776) : FnS Try.prog w0 H 31 #[.slice a xs.length c] (NewB a xs H) := by
  refine fns_enter Try.func31 rfl rfl rfl ?_
  refine sx ?_
  refine s_cond rfl (fun t1 => ?_) (fun t1 => ?_)
  · refine s_kn (φ := xs = []) (fun w hw => ?_) fun e => ?_
    · have h := hx w hw
      have h1 := h.nil (by simpa using t1)
      exact List.eq_nil_of_length_eq_zero (by have := h.le; omega)
    subst e
    refine sx ?_
    exact s_ret1 rfl rfl ⟨⟨none, 0, []⟩, rfl, fun _ => ⟨rfl, rfl⟩, fun _ => rfl, rfl, rfl⟩ Ent.nilS
  refine sx ?_
  refine s_bsl ([] : Bs) rfl rfl fun b1 => ?_
  refine sx ?_
  refine s_app (ys := xs) ?_
  intro a1 c1
  refine s_knL (φ := a1 = none → xs = [] ∧ c1 = 0) (fun w hw e => ?_) fun hk => ?_
  · have h := (RSl.hd (E := 5) (H := H) w hw)
    have h1 := h.nil e
    have h2 := h.le
    exact ⟨List.eq_nil_of_length_eq_zero (by simp at h2; omega), h1⟩
  refine sx ?_
  exact s_ret1 rfl rfl ⟨⟨a1, c1, xs⟩, rfl, hk, fun h => (by rw [h] at t1; cases t1), rfl, rfl⟩
theorem bclip_s {s : SB} : FnS Try.prog w0 (ob s.a s.c s.xs :: H) 36 #[s.val] (fun v K => v = .slice s.a s.xs.length s.xs.length ∧ K = ob s.a s.xs.length s.xs :: H) := by
  refine fns_enter Try.func36 rfl rfl rfl ?_
  refine s_kn (Kn.sl (RSl.hd : RSl w0 (ob s.a s.c s.xs :: H) s.a s.c s.xs)) fun l1 => ?_
  simp only [SB.val]
  refine sx ?_
  refine s_yS rfl rfl rfl (y_slU rfl rfl rfl (by omega)) ?_
  refine sx ?_
  exact s_ret1 rfl rfl ⟨rfl, rfl⟩ (Ent.clip (Nat.le_refl _) (by omega))
/-- What a block shows can be read. -/
theorem Sh.rby {b : Bk} {s : SB} {k : Nat} {G : List Ck} (h : Sh b s) : RBy w0 (.hb k 82 b.cells :: ol 29 b.wa b.wc b.ws :: ob b.l.a b.l.c b.l.xs :: stars oSB b.ws :: G) s.a s.c s.xs := by
  rcases h with h | ⟨h1, h2, rfl, h4⟩
  · exact RBy.tl (RBy.tl (RBy.tl (RBy.ent (RBy.hd (E := 5) (H := [])) (stars_mem (f := oSB) (List.mem_of_getLast? h)))))
  · exact RBy.tl (RBy.tl RBy.hd)
theorem Sh.rby' {c : Cd} {lk : Int} {i : Nat} {e : Be} {s : SB} (hi : c.es[i]? = some e) (h : Sh e.b s) : RBy w0 (c.on lk H) s.a s.c s.xs := RBy.ent (Sh.rby h) (Cd.out hi)
set_option maxHeartbeats 1000000 in
/-- Read. -/
theorem read_s {c : Cd} {N : Nat} {n : Int} (hc : c.Ok N) (hn : I64 n) (hN : N ≤ 1099511627776) : FnS Try.prog w0 (c.on 0 H) 26 #[.pointer (some ⟨c.b, 0, none⟩), .int .i64 n] (fun v K =>
    ∃ c' : Cd, c'.b = c.b ∧ c'.Ok N ∧ c'.ad = c.ad ∧
      ((c.ad.rerr n ≠ 0 ∧ v = .tuple #[.slice none 0 0, .int .i64 (c.ad.rerr n)] ∧ K = c'.on 0 H) ∨
       (c.ad.rerr n = 0 ∧ ∃ a, v = .tuple #[.slice a (c.ad.at_ n).shows.length (c.ad.at_ n).shows.length, .int .i64 0] ∧ K = c'.on 0 (ob a (c.ad.at_ n).shows.length (c.ad.at_ n).shows :: H)))) := by
  have hsz := hc.sz
  refine fns_enterD Try.func26 rfl rfl rfl ?_
  refine sx ?_
  refine s_call rfl lock_d ?_
  rintro _ _ ⟨rfl, rfl⟩
  refine ⟨chk_seq, ?_⟩
  refine sx ?_
  refine s_deferF [.pointer (some ⟨c.b, 0, none⟩)] rfl ?_
  refine sx ?_
  refine s_call rfl (shows_s hc hn hN) ?_
  rintro _ _ (⟨e0, es, hok, had, rfl, rfl⟩ | ⟨e0, es, i, e, s, hi, hen, hsh, hok, had, rfl, rfl⟩)
  · refine ⟨chk_seq, ?_⟩
    refine sx ?_
    refine s_ifn rfl (fun _ => ?_) (fun h => absurd h e0)
    refine sx ?_
    exact d_ret2 (c := { c with es := es }) rfl rfl rfl ⟨{ c with es := es }, rfl, hok, had, .inl ⟨e0, rfl, rfl⟩⟩
  refine ⟨chk_seq, ?_⟩
  refine sx ?_
  refine s_yS rfl rfl rfl (y_addw rfl rfl) ?_
  refine sx ?_
  obtain ⟨r, hr⟩ : ∃ r, IntKind.u64.wrap (c.rs + 1) = r := ⟨_, rfl⟩
  rw [hr]
  refine s_entL (({ c with es := es, rs := r } : Cd).on 1 H) Ent.refl ?_
  have hb := hok.bk e (List.mem_of_getElem? hi)
  have hxl := hsh.len hb
  have hat : (c.ad.at_ n).shows = s.xs := by
    rw [← had, ← hen, show ({ c with es := es } : Cd).ad.at_ e.n = _ from atE_of hok.nodup hi]
    exact hsh.ab
  refine s_call rfl (bclone_s (Sh.rby' (c := { c with es := es, rs := r }) hi hsh) (by rw [hxl]; exact Nat.le_trans hsz.2 (by omega))) ?_
  rintro _ _ ⟨s2, h1, h2, h3, rfl, rfl⟩
  refine ⟨chk_seq, ?_⟩
  refine s_call rfl bclip_s ?_
  rintro _ _ ⟨rfl, rfl⟩
  refine ⟨chk_seq, ?_⟩
  refine sx ?_
  refine s_entQ (({ c with es := es, rs := r } : Cd).on 1 (ob s2.a s2.xs.length s2.xs :: H)) (by exact ent) ?_
  refine d_ret2 (c := { c with es := es, rs := r }) rfl rfl rfl ⟨{ c with es := es, rs := r }, rfl, ⟨hok.nodup, hok.dom, hok.bk, hok.arm, hok.how, hok.sz, hok.nn⟩, had, .inr ⟨e0, s2.a, ?_, ?_⟩⟩
  · rw [hat, h1]
  · rw [hat, h1]
