/- Part of a proof: BranchParts, walked. -/
import Derived.Test.YtolnmecncilpeaaCBO
import Derived.Test.YtolnmecncilpeaaCBL
import Derived.Test.YtolnmecncilpeaaCBB
namespace Go.Sx
open Go Go.Proofs
set_option maxRecDepth 10000
variable {w0 : World} {H : List Ck}
theorem risK_sub {ks : List Bs} (h : risK ks = true) (m n : Nat) : risK ((ks.take m).drop n) = true := risK_iff.2 fun i x y hx hy => by
  rw [List.getElem?_drop, List.getElem?_take] at hx hy
  split at hx
  · split at hy
    · exact risK_iff.1 h (n + i) x y hx (by rw [show n + i + 1 = n + (i + 1) by omega]; exact hy)
    · cases hy
  · cases hx
theorem keysB_sub (ks : List Bs) (m n : Nat) : keysB ((ks.take m).drop n) ≤ keysB ks := by
  have h1 := keysB_take ks m
  have h2 := keysB_app ((ks.take m).take n) ((ks.take m).drop n)
  rw [List.take_append_drop] at h2
  omega
theorem part_chk {size : Int} {d : List Int × List Bs} {i j : Nat} (h : chkK size d = 0) (h1 : i + 2 ≤ j) (h2 : j ≤ d.1.length) : chkK size (cutD d i j) = 0 := by
  obtain ⟨s, ⟨g1, g2, g3⟩, g4, g5, g6⟩ := chkK_0 h
  have l1 : (cutD d i j).1.length = j - i := by simp only [cutD, List.length_drop, List.length_take]; omega
  have l2 : (cutD d i j).2.length = j - 1 - i := by simp only [cutD, List.length_drop, List.length_take]; omega
  have m1 : ∀ n ∈ (cutD d i j).1, n ∈ d.1 := fun n hn => List.mem_of_mem_take (List.mem_of_mem_drop hn)
  have m2 : ∀ n ∈ (cutD d i j).2, n ∈ d.2 := fun n hn => List.mem_of_mem_take (List.mem_of_mem_drop hn)
  have hnd : (cutD d i j).1.Nodup := List.Pairwise.sublist ((List.drop_sublist _ _).trans (List.take_sublist _ _)) g3.1
  rw [chkK_e s ⟨by omega, by omega, hnd, fun n hn => g3.2 n (m1 n hn)⟩ (fun x hx => g4 x (m2 x hx)) (risK_sub g5 _ _), if_neg]
  have h3 := keysB_sub d.2 (j - 1) i
  have h4 : bytesK (cutD d i j) = 2 + 4 * (cutD d i j).1.length + keysB (cutD d i j).2 := rfl
  have h5 : bytesK d = 2 + 4 * d.1.length + keysB d.2 := rfl
  have h6 : keysB (cutD d i j).2 ≤ keysB d.2 := h3
  omega
def Kd.lft (k : Kd) (n : Nat) : Kd := ⟨k.pa, k.pc, k.ps.take n, k.ka, k.kc, k.ks.take (n - 1)⟩
def Kd.rgt (k : Kd) (n : Nat) : Kd := ⟨Sx.sl k.pa k.pc n 1, k.pc - n, k.ps.drop n, Sx.sl k.ka k.kc n 1, k.kc - n, k.ks.drop n⟩
theorem Kd.lft_d (k : Kd) (n : Nat) : (k.lft n).d = cutD k.d 0 n := by simp [Kd.lft, cutD, Kd.d, Kd.keys]
theorem Kd.rgt_d {k : Kd} {n : Nat} (h : k.ks.length + 1 = k.ps.length) : (k.rgt n).d = cutD k.d n k.d.1.length := by
  have e : (k.keys.take (k.ps.length - 1)) = k.keys := List.take_of_length_le (by simp; omega)
  simp only [Kd.rgt, cutD, Kd.d, Kd.keys, List.take_length, List.map_drop] at e ⊢
  rw [e]
theorem RKd.lft {k : Kd} {n : Nat} (h : RKd w0 H k) (h1 : n ≤ k.ps.length) (h2 : n - 1 ≤ k.ks.length) : RKd w0 H (k.lft n) := ⟨h.ps.take h1, h.ks.take h2, fun p hp => h.el p (List.mem_of_mem_take hp)⟩
theorem RKd.rgt {k : Kd} {n : Nat} (h : RKd w0 H k) (h1 : n ≤ k.ps.length) (h2 : n ≤ k.ks.length) : RKd w0 H (k.rgt n) := ⟨h.ps.drop h1, h.ks.drop h2, fun p hp => h.el p (List.mem_of_mem_drop hp)⟩
theorem Kd.lft_c {k : Kd} {n : Nat} (h1 : n ≤ k.ps.length) (h2 : n - 1 ≤ k.ks.length) : (k.lft n).cells = [.slice k.pa n k.pc, .slice k.ka (n - 1 : Nat) k.kc] := by
  simp only [Kd.cells, Kd.lft, List.length_take, Nat.min_eq_left h1, Nat.min_eq_left h2]
theorem Kd.rgt_c {k : Kd} {n : Nat} : (k.rgt n).cells = [.slice (Sx.sl k.pa k.pc n 1) (k.ps.length - n) (k.pc - n), .slice (Sx.sl k.ka k.kc n 1) (k.ks.length - n) (k.kc - n)] := by
  simp only [Kd.cells, Kd.rgt, List.length_drop]
theorem rparts_s {k : Kd} {n : Nat} {p : SB} (hk : RKd w0 H k) (h1 : 1 ≤ n) (h2 : n ≤ k.ks.length) (h3 : k.ks.length + 1 = k.ps.length) (hp : k.ks[n - 1]? = some p) :
    FnV Try.prog w0 H 36 #[.agg k.cells.toArray, .int .i64 n] (.tuple #[.agg (k.lft n).cells.toArray, p.val, .agg (k.rgt n).cells.toArray]) := by
  refine fns_enter Try.func36 rfl rfl rfl ?_
  refine s_kn (Kn.kp hk) fun l1 => s_kn (Kn.kk hk) fun l2 => ?_
  simp only [maxLen] at l1 l2
  have hks := hk.ks
  refine sx ?_
  refine s_boxA rfl fun b2 => ?_
  refine sx ?_
  refine s_alloc fun b4 => ?_
  refine sx ?_
  refine s_alloc fun b6 => ?_
  refine sx ?_
  refine sx ?_; refine s_drH (.hb b6 31 [.slice none 0 0, .slice none 0 0] :: .hb b4 31 [.slice none 0 0, .slice none 0 0] :: .hb b2 31 k.cells :: H) (.one true 0 (.one true 1 (.one true 2 (.one true 3 (.one true 4 (.one true 5 (.one true 6 (.one true 7 (.one true 8 (.one true 9 (.one false 10 (.one false 11 .nil)))))))))))) mixed (by kernel_rfl) ?_; refine sx ?_
  refine s_rw (t := 16) rfl (ci (by omega : _ = ((n - 1 : Nat) : Int))) ?_
  refine sx ?_
  refine s_rw (t := 18) (v' := .agg (k.lft n).cells.toArray) rfl (by rw [Kd.lft_c (by omega) (by omega)]; rfl) ?_
  refine s_alloc fun b7 => ?_
  refine sx ?_
  refine sx ?_; refine s_drH (.hb b7 31 (k.lft n).cells :: .hb b6 31 [.slice none 0 0, .slice none 0 0] :: .hb b4 31 [.slice none 0 0, .slice none 0 0] :: .hb b2 31 k.cells :: H) (.one true 0 (.one true 1 (.one true 2 (.one true 3 (.one true 4 (.one true 5 (.one true 6 (.one true 7 (.one true 8 (.one false 9 (.one false 10 .nil))))))))))) mixed (by kernel_rfl) ?_; refine sx ?_
  refine s_rw (t := 27) (v' := .agg (k.rgt n).cells.toArray) rfl (by rw [Kd.rgt_c]; rfl) ?_
  refine s_alloc fun b8 => ?_
  refine sx ?_
  refine sx ?_; refine s_drH (.hb b8 31 (k.rgt n).cells :: .hb b7 31 (k.lft n).cells :: .hb b2 31 k.cells :: H) (.one true 0 (.one true 1 (.one true 2 (.one true 3 (.one true 4 (.one true 5 (.one true 6 (.one true 7 (.one false 8 (.one true 9 (.one false 10 .nil))))))))))) mixed (by kernel_rfl) ?_; refine sx ?_
  exact s_retcvc rfl rfl rfl rfl (by exact at_) (by exact rfl) (by exact at_) (by exact rfl) ⟨rfl, rfl⟩
theorem bcheck_v {k : Kd} {size e : Int} (hk : RKd w0 H k) (hI : ∀ n ∈ k.ps, I64 n) (h : chkK size k.d = e) : FnV Try.prog w0 H 26 #[.int .i64 size, .agg k.cells.toArray] (.int .i64 e) := by
  subst h; exact bcheck_s hk hI
theorem spl_of {size : Int} {d : List Int × List Bs} (h : splE size d = 0) : splOk size d ∧ ¬ size - 32 < (bst (lngD d) (d.1.length - 3)).2 ∧ splN size d = (bst (lngD d) (d.1.length - 3)).1 := by
  by_cases h1 : splOk size d
  · by_cases h2 : size - 32 < (bst (lngD d) (d.1.length - 3)).2
    · rw [(spl_64 h1 h2).1] at h; cases h
    · exact ⟨h1, h2, (spl_0 h1 h2).2⟩
  · rw [(spl_1 h1).1] at h; cases h
theorem lng_lr {k : Kd} {n : Nat} (h : k.ks.length + 1 = k.ps.length) : max (IntKind.i64.wrap (bytesK (k.lft n).d : Nat)) (IntKind.i64.wrap (bytesK (k.rgt n).d : Nat)) = lngD k.d n := by
  rw [Kd.lft_d, Kd.rgt_d h]
  rfl
/-- One child replaced by two, a key between them. -/
theorem brep_one {a1 a2 a3 : Option Addr} {p : SB} (r1 : RSl w0 H a1 1 ([1] : List Int)) (r2 : RSl w0 H a2 2 ([2, 3] : List Int)) (r3 : RSl w0 H a3 1 [p]) (rp : RBy w0 H p.a p.c p.xs) (hl : p.xs.length ≤ 140737488355328) :
    FnS Try.prog w0 H 23 #[.agg #[.slice a1 1 1, .slice none 0 0], .int .i64 0, .int .i64 1, .agg #[.slice a2 2 2, .slice a3 1 1]] (fun v H' => ∃ pa pc ps ka kc sa sc, v = .tuple #[.agg #[.slice pa (ps : List Int).length pc, .slice ka 1 kc], .int .i64 0] ∧ H' = oK ⟨pa, pc, ps, ka, kc, [⟨sa, sc, p.xs⟩]⟩ :: H) := by
  have rk : RKd w0 H ⟨a1, 1, [1], none, 0, []⟩ := ⟨r1, RSl.nil, fun _ h => (by cases h)⟩
  have rq : RKd w0 H ⟨a2, 2, [2, 3], a3, 1, [p]⟩ := ⟨r2, r3, fun q h => (by rw [List.mem_singleton.1 h]; exact rp)⟩
  have h := breplW_s (k := ⟨a1, 1, [1], none, 0, []⟩) (q := ⟨a2, 2, [2, 3], a3, 1, [p]⟩) (i := 0) (j := 1) rk rq ⟨by omega, by omega⟩ ⟨by omega, by omega⟩ ⟨by simp, by simp, fun _ h => (by cases h), fun q h => (by rw [List.mem_singleton.1 h]; exact hl)⟩
  refine FnS.mono h ?_
  rintro v H' ⟨x, rfl, hx, rfl⟩
  have hok : repOk (Kd.d ⟨a1, 1, [1], none, 0, []⟩) (Kd.d ⟨a2, 2, [2, 3], a3, 1, [p]⟩) 0 1 := ⟨rfl, rfl, by omega, by omega, by simp⟩
  rw [if_pos hok] at hx
  obtain ⟨pa, pc, ps, ka, kc, ks⟩ := x
  have e2 : ks.map SB.xs = [p.xs] := congrArg Prod.snd hx
  match ks, e2 with
  | [⟨sa, sc, sx⟩], e2 =>
    have : sx = p.xs := by simpa using e2
    subst this
    rw [if_pos hok]
    exact ⟨pa, pc, ps, ka, kc, sa, sc, rfl, rfl⟩
set_option maxHeartbeats 1000000 in
theorem bparts_s {k : Kd} {size other : Int} (hk : RKd w0 H k) (hI : ∀ n ∈ k.ps, I64 n) (hp : k.ps.length ≤ 140737488355328) (hkl : ∀ p ∈ k.ks, p.xs.length ≤ 140737488355328) (ho : I64 other) :
    FnV Try.prog w0 H 11 #[.int .i64 size, .agg k.cells.toArray, .int .i64 other] (.bool true) := by
  refine fns_enter Try.func11 rfl rfl rfl ?_
  refine s_kn (Kn.kp hk) fun l1 => s_kn (Kn.kk hk) fun l2 => ?_
  simp only [maxLen] at l1 l2
  have hkd : k.d.2.length = k.ks.length := by simp
  have hkp : k.d.1.length = k.ps.length := rfl
  refine sx ?_
  refine s_boxA rfl fun b4 => ?_
  refine sx ?_
  refine s_callV rfl alive_s ?_
  refine sx ?_
  refine s_callV rfl (bsplit_s (k := k) (by exact rkd) hp) ?_
  refine sx ?_
  refine s_ifn rfl (fun t1 => ?_) (fun t1 => ?_)
  · have hn : splN size k.d = 0 := by unfold splN; rw [if_neg t1]
    refine s_rwC (t := 8) (v' := .int .i64 0) rfl (by rw [hn]; rfl) ?_
    refine sx ?_
    exact s_ret1 rfl rfl ⟨rfl, rfl⟩
  obtain ⟨hok, hle, hsn⟩ := spl_of t1
  obtain ⟨o0, o1, o2⟩ := hok
  have hsz := sizedB_bd o0
  obtain ⟨b1, b2, b3, b4'⟩ := bst_ok (lngD k.d) (k.d.1.length - 3) (by omega)
  rw [b3] at hle b4'
  rw [← hsn] at b1 b2 hle b4'
  clear b3 hsn
  generalize hN : splN size k.d = n at b1 b2 hle b4'
  obtain ⟨p, hpn⟩ := get_lt k.ks (n - 1) (by omega)
  have hpl := hkl p (List.mem_of_getElem? hpn)
  have hpb := hk.el p (List.mem_of_getElem? hpn)
  refine sx ?_
  refine s_lif rfl (fun t2 => absurd t2 (by omega)) (fun t2 => ?_)
  refine sx ?_
  refine s_if rfl (fun t3 => absurd t3 (by omega)) (fun t3 => ?_)
  refine sx ?_
  refine s_callV rfl (rparts_s (k := k) (n := n) (by exact rkd) (by omega) (by omega) (by omega) hpn) ?_
  refine sx ?_
  refine s_alloc fun b10 => ?_
  refine sx ?_
  refine s_alloc fun b12 => ?_
  refine sx ?_
  refine s_bsl [(1 : Int)] rfl rfl fun b53 => ?_
  refine sx ?_
  refine s_bsl [(2 : Int), 3] rfl rfl fun b55 => ?_
  refine sx ?_
  refine s_bsl [p] rfl rfl fun b57 => ?_
  refine sx ?_
  refine s_rw (t := 54) (v' := .agg #[.slice (some ⟨b53, 0, none⟩) 1 1, .slice none 0 0]) rfl rfl ?_
  refine s_rw (t := 58) (v' := .agg #[.slice (some ⟨b55, 0, none⟩) 2 2, .slice (some ⟨b57, 0, none⟩) 1 1]) rfl rfl ?_
  refine s_call rfl (brep_one (p := p) (by exact rsl) (by exact rsl) (by exact rsl) (by exact rby) hpl) ?_
  rintro _ _ ⟨xa, xc, xs, ka, kc, sa, sc, rfl, rfl⟩
  refine ⟨chk_seq, ?_⟩
  refine sx ?_
  refine s_alloc fun b13 => ?_
  refine sx ?_
  refine sx ?_; refine s_dr (.one true 0 (.one true 2 (.one false 1 (.one false 3 (.one true 4 (.one true 5 .nil)))))) mixed (by kernel_rfl) ?_; refine sx ?_
  refine s_callV rfl (bbytesW_s (k := k.lft n) (RKd.lft (by exact rkd) (by omega) (by omega)) (by simp only [Kd.lft, List.length_take]; omega)) ?_
  refine sx ?_
  refine s_callV rfl (bbytesW_s (k := k.rgt n) (RKd.rgt (by exact rkd) (by omega) (by omega)) (by simp only [Kd.rgt, List.length_drop]; omega)) ?_
  refine sx ?_
  refine s_rw (t := 15) (v' := .int .i64 (lngD k.d n)) rfl (ci (lng_lr (by omega))) ?_
  have hpk := pkL_bd (c := other) (n := (k.ps.length : Int) - 3) (by omega)
  refine s_callV rfl (pick_s (c := other) (n := (k.ps.length : Int) - 3) ho (by omega)) ?_
  obtain ⟨x, hx⟩ := Int.eq_ofNat_of_zero_le hpk.1
  rw [hx] at hpk
  refine s_rw (t := 72) (v' := .int .i64 (x : Int)) rfl (ci hx) ?_
  clear hx
  refine sx ?_
  obtain ⟨m, hm⟩ : ∃ m : Nat, m = 2 + x := ⟨_, rfl⟩
  refine s_rw (t := 76) (v' := .int .i64 (m : Int)) rfl (ci (by omega)) ?_
  refine s_rw (t := 16) (v' := .int .i64 (m : Int)) rfl (ci (by omega)) ?_
  obtain ⟨p2, hp2⟩ := get_lt k.ks (m - 1) (by omega)
  refine s_callV rfl (rparts_s (k := k) (n := m) (by exact rkd) (by omega) (by omega) (by omega) hp2) ?_
  refine sx ?_
  refine s_alloc fun b17 => ?_
  refine sx ?_
  refine s_alloc fun b19 => ?_
  refine sx ?_
  refine sx ?_; refine s_dr (.one true 0 (.one true 2 (.one false 1 (.one false 3 (.one true 4 (.one true 5 .nil)))))) mixed (by kernel_rfl) ?_; refine sx ?_
  refine s_callV rfl (bbytesW_s (k := k.lft m) (RKd.lft (by exact rkd) (by omega) (by omega)) (by simp only [Kd.lft, List.length_take]; omega)) ?_
  refine sx ?_
  refine s_callV rfl (bbytesW_s (k := k.rgt m) (RKd.rgt (by exact rkd) (by omega) (by omega)) (by simp only [Kd.rgt, List.length_drop]; omega)) ?_
  refine sx ?_
  refine s_rwC (t := 20) (v' := .int .i64 (lngD k.d m)) rfl (ci (lng_lr (by omega))) ?_
  obtain ⟨hmn1, hmn2⟩ := b4' m (by omega) (by omega)
  refine s_ent (.hb b19 31 (k.rgt m).cells :: .hb b17 31 (k.lft m).cells :: .hb b13 31 [.slice xa xs.length xc, .slice ka 1 kc] :: oK ⟨xa, xc, xs, ka, kc, [⟨sa, sc, p.xs⟩]⟩ :: ol 23 (some ⟨b57, 0, none⟩) 1 [p] :: ol 3 (some ⟨b55, 0, none⟩) 2 [(2 : Int), 3] :: ol 3 (some ⟨b53, 0, none⟩) 1 [(1 : Int)] :: .hb b12 31 (k.rgt n).cells :: .hb b10 31 (k.lft n).cells :: .hb b4 31 k.cells :: H) (by exact ent) ?_
  refine s_kn (φ := ∃ ad, ka = some ad) (fun w hw => by
    have h := (RKd.ks (k := ⟨xa, xc, xs, ka, kc, [⟨sa, sc, p.xs⟩]⟩) (by exact rkd)) w hw
    cases ka with
    | none =>
      have h1 := h.nil rfl
      have h2 := h.le
      simp only [List.length_cons, List.length_nil] at h1 h2
      omega
    | some ad => exact ⟨ad, rfl⟩) ?_
  rintro ⟨ad, rfl⟩
  have rX : RKd w0 (.hb b19 31 (k.rgt m).cells :: .hb b17 31 (k.lft m).cells :: .hb b13 31 [.slice xa xs.length xc, .slice (some ad) 1 kc] :: oK ⟨xa, xc, xs, (some ad), kc, [⟨sa, sc, p.xs⟩]⟩ :: ol 23 (some ⟨b57, 0, none⟩) 1 [p] :: ol 3 (some ⟨b55, 0, none⟩) 2 [(2 : Int), 3] :: ol 3 (some ⟨b53, 0, none⟩) 1 [(1 : Int)] :: .hb b12 31 (k.rgt n).cells :: .hb b10 31 (k.lft n).cells :: .hb b4 31 k.cells :: H) ⟨xa, xc, xs, (some ad), kc, [⟨sa, sc, p.xs⟩]⟩ := by exact rkd
  have rs1 := rX.ks
  have rs2 : RBy w0 (.hb b19 31 (k.rgt m).cells :: .hb b17 31 (k.lft m).cells :: .hb b13 31 [.slice xa xs.length xc, .slice (some ad) 1 kc] :: oK ⟨xa, xc, xs, (some ad), kc, [⟨sa, sc, p.xs⟩]⟩ :: ol 23 (some ⟨b57, 0, none⟩) 1 [p] :: ol 3 (some ⟨b55, 0, none⟩) 2 [(2 : Int), 3] :: ol 3 (some ⟨b53, 0, none⟩) 1 [(1 : Int)] :: .hb b12 31 (k.rgt n).cells :: .hb b10 31 (k.lft n).cells :: .hb b4 31 k.cells :: H) sa sc p.xs := rX.el ⟨sa, sc, p.xs⟩ (List.mem_singleton.2 rfl)
  have h0 : ([⟨sa, sc, p.xs⟩] : List SB)[0]? = some ⟨sa, sc, p.xs⟩ := rfl
  simp only at rs1
  refine sx ?_; refine s_dr (.one true 0 (.one true 1 (.one true 2 (.one true 3 (.one true 4 (.one true 5 (.one true 6 (.one true 7 (.one true 8 (.one true 9 (.one true 10 (.one true 11 (.one true 12 (.one true 13 (.one true 14 (.one true 15 (.one true 16 (.one true 17 (.one true 18 (.one true 19 (.one true 20 (.one true 21 (.one true 22 (.one true 23 (.one true 24 (.one true 25 (.one true 26 (.one true 27 (.one true 28 (.one true 29 (.one true 30 (.one true 31 (.one true 32 (.one true 33 (.one true 34 (.one true 35 (.one true 36 (.one true 37 (.one true 38 (.one true 39 (.one true 40 (.one true 41 (.one true 42 .nil))))))))))))))))))))))))))))))))))))))))))) mixed (by kernel_rfl) ?_; refine sx ?_
  refine s_lif rfl (fun t4 => absurd t4 (by omega)) (fun t4 => ?_)
  refine sx ?_
  refine s_lif rfl (fun t5 => absurd t5 (by omega)) (fun t5 => ?_)
  refine sx ?_
  refine s_lif rfl (fun t6 => ?_) (fun t6 => ?_)
  · refine sx ?_
    refine s_if rfl (fun t7 => absurd (hmn2 (by omega)) (by omega)) (fun t7 => ?_)
    refine sx ?_
    refine s_callV rfl (bcheck_s (k := k) (by exact rkd) hI) ?_
    refine sx ?_
    refine s_if rfl (fun t8 => ?_) (fun t8 => ?_)
    · have c1 := part_chk (i := 0) (j := n) t8 (by omega) (by omega)
      have c2 := part_chk (i := n) (j := k.d.1.length) t8 (by omega) (Nat.le_refl _)
      rw [← Kd.lft_d] at c1
      rw [← Kd.rgt_d (by omega)] at c2
      refine sx ?_
      refine s_callV rfl (bcheck_v (k := k.lft n) (RKd.lft (by exact rkd) (by omega) (by omega)) (fun x h => hI x (List.mem_of_mem_take h)) c1) ?_
      refine sx ?_
      refine s_callV rfl (bcheck_v (k := k.rgt n) (RKd.rgt (by exact rkd) (by omega) (by omega)) (fun x h => hI x (List.mem_of_mem_drop h)) c2) ?_
      refine sx ?_
      exact s_ret1 rfl rfl ⟨rfl, rfl⟩
    · refine sx ?_
      exact s_ret1 rfl rfl ⟨rfl, rfl⟩
  · refine sx ?_
    refine s_callV rfl (bcheck_s (k := k) (by exact rkd) hI) ?_
    refine sx ?_
    refine s_if rfl (fun t8 => ?_) (fun t8 => ?_)
    · have c1 := part_chk (i := 0) (j := n) t8 (by omega) (by omega)
      have c2 := part_chk (i := n) (j := k.d.1.length) t8 (by omega) (Nat.le_refl _)
      rw [← Kd.lft_d] at c1
      rw [← Kd.rgt_d (by omega)] at c2
      refine sx ?_
      refine s_callV rfl (bcheck_v (k := k.lft n) (RKd.lft (by exact rkd) (by omega) (by omega)) (fun x h => hI x (List.mem_of_mem_take h)) c1) ?_
      refine sx ?_
      refine s_callV rfl (bcheck_v (k := k.rgt n) (RKd.rgt (by exact rkd) (by omega) (by omega)) (fun x h => hI x (List.mem_of_mem_drop h)) c2) ?_
      refine sx ?_
      exact s_ret1 rfl rfl ⟨rfl, rfl⟩
    · refine sx ?_
      exact s_ret1 rfl rfl ⟨rfl, rfl⟩
end Go.Sx
