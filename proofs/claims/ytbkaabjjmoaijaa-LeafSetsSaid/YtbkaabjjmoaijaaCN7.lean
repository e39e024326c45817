/- Part of a proof: the law LeafDecodes, walked. -/
import Derived.Test.YtbkaabjjmoaijaaCN5
import Derived.Test.YtbkaabjjmoaijaaCN1
import Derived.Test.YtbkaabjjmoaijaaCP1
import Derived.Laws.BitsAllLaws
namespace Go.Sx
open Go Go.Proofs
set_option maxRecDepth 10000

section
variable {P : Program} {S : World → Prop} {l : List (Nat × Value)} {d : Option Tmp} {ty : TypeId} {pos : String} {af : Array Edge} {g : Option (Nat × Bool)}
theorem y_xorb {x y : Operand} {T U : TypeId} {a b : UInt8} (hx : ev l x = some (bv a)) (hy : ev l y = some (bv b)) :
    Y P S ⟨d, .binOp .xor T x y U, ty, pos, af, g⟩ l (bv (a ^^^ b)) := .mk fun w _ ρ hρ => by
  have h1 := a.toNat_lt
  have h2 := b.toNat_lt
  have h3 := u8_xor_nat a.toNat b.toNat h1 h2
  simp [execOp, hρ _ _ hx, hρ _ _ hy, eqGuard, binOp, Op.intBits, bv, UInt8.toNat_xor]
  first | exact h3 | simpa [bits] using h3
end
theorem sum_len6 : ∀ (p : Bs) (ps : Ps), 6 * ps.length ≤ sumB p ps
  | _, [] => by simp [sumB]
  | p, e :: r => by have := sum_len6 e.1 r; have := common_le p e.1; simp only [sumB, List.length_cons]; omega
theorem chk_bd {size : Int} {ps : Ps} (hs : sizedL size = true) (h : chkL size ps = 0) : ps.length ≤ 4096 ∧ ∀ e ∈ ps, e.1.length ≤ 4096 ∧ e.2.length ≤ 4096 := by
  have h1 := (chk_iff hs).1 h
  have h2 := sized_bd hs
  have h3 := sum_len6 [] ps
  refine ⟨?_, fun e he => ?_⟩
  · have := h1.2
    simp only [bytesL] at this
    omega
  · have := (may_iff.1 h1.1).1 e he
    simp only [LenOk] at this
    omega
theorem dec_bd {size : Int} {xs : Bs} : (decR size xs).length ≤ 4096 ∧ ∀ e ∈ decR size xs, e.1.length ≤ 4096 ∧ e.2.length ≤ 4096 := by
  unfold decR
  split
  · rename_i hs
    cases h : decO size xs with
    | none => simp
    | some l => exact chk_bd hs (dec_some h).2.2.1
  · simp
theorem dec_kv {size : Int} {xs : Bs} {es : List KV} (h : es.map KV.p = decR size xs) : es.length ≤ 4096 ∧ ∀ e ∈ es, e.k.length ≤ 4294967296 ∧ e.v.length ≤ 4294967296 := by
  have hb := dec_bd (size := size) (xs := xs)
  rw [← h, List.length_map] at hb
  refine ⟨hb.1, fun e he => ?_⟩
  have := hb.2 e.p (List.mem_map.2 ⟨e, he, rfl⟩)
  simp only [KV.p] at this
  omega
variable {w0 : World} {H : List Ck}
/-- A new book. -/
abbrev bk0 (k : Nat) : Bk := ⟨k, none, 0, [], none, 0, [], none, 0, []⟩
theorem bk0_ok (k : Nat) : (bk0 k).Ok 0 := { same := rfl, len := Nat.le_refl _, lens := Nat.le_refl _, small := fun s h => (by cases h), smalls := fun s h => (by cases h) }
theorem bk0_ent {k : Nat} : Ent (.hb k 31 [.slice none 0 0, .slice none 0 0, .slice none 0 0] :: H) ((bk0 k).ck :: H) := by
  refine Ent.trans ?_ Bk.shut
  refine Ent.cons (by exact rm) ?_
  refine Ent.nilS.trans (Ent.head ?_)
  refine Ent.nilS.trans (Ent.head ?_)
  refine Ent.nilS.trans (Ent.head ?_)
  refine fam_nil.trans (Ent.head ?_)
  refine fam_nil.trans (Ent.head ?_)
  exact fam_nil
theorem same_t {a a' : Option Addr} {c c' : Nat} {es fs : List KV} (he : REn w0 H a c es) (hf : REn w0 H a' c' fs) (h : es.map KV.p = fs.map KV.p) : FnV Try.prog w0 H 23 #[.slice a es.length c, .slice a' fs.length c'] (.bool true) := by
  have := same_s he hf
  rwa [decide_eq_true h] at this
set_option maxHeartbeats 1000000 in
theorem decodes_s {size : Int} {a a2 : Option Addr} {c c2 : Nat} {xs ys : Bs} (hz : I64 size) (hx : RBy w0 H a c xs) (hy : RBy w0 H a2 c2 ys) :
    FnV Try.prog w0 H 5 #[.int .i64 size, .slice a xs.length c, .slice a2 ys.length c2] (.bool true) := by
  refine fns_enter Try.func5 rfl rfl rfl ?_
  refine s_kn (Kn.by hx) fun l1 => ?_
  simp only [maxLen] at l1
  refine sx ?_
  refine s_callV rfl shown_s ?_
  refine sx ?_
  refine s_lif rfl (fun t3 => ?_) (fun t3 => ?_)
  · refine sx ?_
    exact s_ret1 rfl rfl ⟨rfl, rfl⟩
  refine sx ?_
  refine s_if rfl (fun t4 => ?_) (fun t4 => ?_)
  · refine sx ?_
    exact s_ret1 rfl rfl ⟨rfl, rfl⟩
  refine sx ?_
  refine s_boxA rfl fun b8 => ?_
  refine sx ?_
  refine s_call rfl (marked_s (by exact rby) (by omega)) ?_
  rintro _ _ ⟨a9, c9, rfl, rfl⟩
  refine ⟨chk_seq, ?_⟩
  refine s_entL (ob a9 c9 (xs ++ [167, 168]) :: (bk0 b8).ck :: H) (Ent.head bk0_ent) ?_
  refine s_knL (Kn.by (RBy.hd : RBy w0 (ob a9 c9 (xs ++ [167, 168]) :: (bk0 b8).ck :: H) a9 c9 _)) fun l9 => ?_
  simp only [maxLen, List.length_append, List.length_cons, List.length_nil] at l9
  have hin : RBy w0 (ob a9 c9 (xs ++ [167, 168]) :: (bk0 b8).ck :: H) a9 c9 xs := by
    have := (RBy.hd : RBy w0 (ob a9 c9 (xs ++ [167, 168]) :: (bk0 b8).ck :: H) a9 c9 (xs ++ [167, 168])).take (k := xs.length) (by simp)
    rwa [List.take_left'  rfl] at this
  refine sx ?_
  refine s_call rfl (ldecode_s (size := size) (by exact rby) hz) ?_
  rintro _ _ ⟨ax, cx, xe, rfl, hxe, rfl⟩
  refine ⟨chk_seq, ?_⟩
  refine sx ?_
  refine s_call rfl (ldecode_s (size := size) (by exact rby) hz) ?_
  rintro _ _ ⟨ay, cy, ye, rfl, hye, rfl⟩
  refine ⟨chk_seq, ?_⟩
  refine sx ?_
  refine s_call rfl (ldecode_s (size := size) (by exact rby) hz) ?_
  rintro _ _ ⟨ao, co, oe', rfl, hoe, rfl⟩
  refine ⟨chk_seq, ?_⟩
  refine sx ?_
  refine s_call rfl (ldecode_s (size := size) (by exact rby) hz) ?_
  rintro _ _ ⟨az, cz, ze, rfl, hze, rfl⟩
  refine ⟨chk_seq, ?_⟩
  refine sx ?_
  refine s_call rfl (rdecode_s (size := size) (by exact rby) hz) ?_
  rintro _ _ ⟨aw, cw, we, rfl, hwe, rfl⟩
  refine ⟨chk_seq, ?_⟩
  refine sx ?_
  refine s_call rfl (rdecode_s (size := size) (by exact rby) hz) ?_
  rintro _ _ ⟨av, cv, ve, rfl, hve, rfl⟩
  refine ⟨chk_seq, ?_⟩
  refine sx ?_
  refine s_callV rfl (same_t (by exact ren) (by exact ren) (hxe.trans hwe.symm)) ?_
  refine sx ?_
  refine s_callV rfl (same_t (by exact ren) (by exact ren) (hye.trans hwe.symm)) ?_
  refine sx ?_
  refine s_callV rfl (same_t (by exact ren) (by exact ren) (hoe.trans hve.symm)) ?_
  refine sx ?_
  refine s_callV rfl (same_t (by exact ren) (by exact ren) (hze.trans hwe.symm)) ?_
  refine sx ?_
  have hL : (xs ++ [167, 168]).length = xs.length + 2 := by simp
  refine s_loop (fun (i : Nat × Bs) => [(0, .int .i64 size), (1, .slice a xs.length c), (8, .pointer (some ⟨b8, 0, none⟩)), (9, .slice a9 (xs ++ [167, 168]).length c9), (10, .slice a9 xs.length c9), (11, .slice ax xe.length cx), (13, .slice ay ye.length cy), (15, .slice ao oe'.length co), (17, .slice az ze.length cz), (27, .int .i64 i.1)])
    (fun i => ob a9 c9 i.2 :: oe av cv ve :: oe aw cw we :: oe az cz ze :: oe ao co oe' :: oe ay cy ye :: oe ax cx xe :: (bk0 b8).ck :: H) (fun i => i.1 ≤ xs.length ∧ i.2.length = xs.length + 2) (fun i => xs.length - i.1) (0, xs ++ [167, 168]) ⟨Nat.zero_le _, hL⟩ ?_
  rintro ⟨n, zs⟩ ⟨hn, hzl⟩
  simp only at hn hzl ⊢
  refine sx ?_
  refine s_if rfl (fun t5 => ?_) (fun t5 => ?_)
  · have hzr : RBy w0 (ob a9 c9 zs :: oe av cv ve :: oe aw cw we :: oe az cz ze :: oe ao co oe' :: oe ay cy ye :: oe ax cx xe :: (bk0 b8).ck :: H) a9 c9 zs := RBy.hd
    refine sx ?_
    refine s_yS rfl rfl rfl (y_xorb (b := 51) rfl rfl) ?_
    refine sx ?_
    refine s_set1g (i := n) (y := zs.getD n 0 ^^^ 51) rfl rfl (by exact at_) rfl (by omega) ?_
    refine sx ?_
    exact s_again (n + 1, zs.set n (zs.getD n 0 ^^^ 51)) ⟨by simp only; omega, by simp only [List.length_set]; exact hzl⟩ (by simp only; omega)
  clear hin
  have hin : RBy w0 (ob a9 c9 zs :: oe av cv ve :: oe aw cw we :: oe az cz ze :: oe ao co oe' :: oe ay cy ye :: oe ax cx xe :: (bk0 b8).ck :: H) a9 c9 (zs.take xs.length) := (RBy.hd : RBy w0 (ob a9 c9 zs :: oe av cv ve :: oe aw cw we :: oe az cz ze :: oe ao co oe' :: oe ay cy ye :: oe ax cx xe :: (bk0 b8).ck :: H) a9 c9 zs).take (by omega)
  have hil : (zs.take xs.length).length = xs.length := by rw [List.length_take]; omega
  generalize zs.take xs.length = us at hin hil
  have hd1 := ldecode_s (size := size) hin hz
  rw [hil] at hd1
  refine sx ?_
  refine s_call rfl hd1 ?_
  rintro _ _ ⟨ah, ch, he, rfl, hhe, rfl⟩
  refine ⟨chk_seq, ?_⟩
  refine sx ?_
  refine s_bsl ([] : List UInt8) rfl rfl fun b10 => ?_
  refine sx ?_
  refine s_app (ys := us) ?_ (hm := hil.symm)
  intro a11 c11
  refine sx ?_
  refine s_call rfl (rdecode_s (size := size) (xs := [] ++ us) (by exact rby) hz) ?_
  rintro _ _ ⟨ai, ci', ie, rfl, hie, rfl⟩
  have hie : ie.map KV.p = decR size us := hie
  refine ⟨chk_seq, ?_⟩
  refine sx ?_
  refine s_callV rfl (same_t (by exact ren) (by exact ren) (hhe.trans hie.symm)) ?_
  refine sx ?_
  have hb0 := dec_kv hxe
  refine s_call rfl ((entries_s (H := oe ay cy ye :: oe ao co oe' :: oe az cz ze :: oe ah ch he :: H) (a := ax) (c := cx) (es := xe) (bk0_ok b8) (by omega) (by omega) hb0.2).ent (by exact ent)) ?_
  rintro _ _ ⟨B0, rfl, hk0, ho0⟩
  refine ⟨chk_seq, ?_⟩
  have hk0 : B0.k = b8 := hk0
  rw [show b8 = B0.k from hk0.symm]
  refine sx ?_
  have hb1 := dec_kv hye
  refine s_call rfl ((entries_s (H := oe ao co oe' :: oe az cz ze :: oe ah ch he :: H) (a := ay) (c := cy) (es := ye) ho0 (by omega) (by omega) hb1.2).ent (by exact ent)) ?_
  rintro _ _ ⟨B1, rfl, hk1, ho1⟩
  refine ⟨chk_seq, ?_⟩
  rw [← hk1]
  refine sx ?_
  have hb2 := dec_kv hoe
  refine s_call rfl ((entries_s (H := oe az cz ze :: oe ah ch he :: H) (a := ao) (c := co) (es := oe') ho1 (by omega) (by omega) hb2.2).ent (by exact ent)) ?_
  rintro _ _ ⟨B2, rfl, hk2, ho2⟩
  refine ⟨chk_seq, ?_⟩
  rw [← hk2]
  refine sx ?_
  have hb3 := dec_kv hze
  refine s_call rfl ((entries_s (H := oe ah ch he :: H) (a := az) (c := cz) (es := ze) ho2 (by omega) (by omega) hb3.2).ent (by exact ent)) ?_
  rintro _ _ ⟨B3, rfl, hk3, ho3⟩
  refine ⟨chk_seq, ?_⟩
  rw [← hk3]
  refine sx ?_
  have hb4 := dec_kv hhe
  refine s_call rfl ((entries_s (H := H) (a := ah) (c := ch) (es := he) ho3 (by omega) (by omega) hb4.2).ent (by exact ent)) ?_
  rintro _ _ ⟨B4, rfl, hk4, ho4⟩
  refine ⟨chk_seq, ?_⟩
  rw [← hk4]
  refine sx ?_
  refine s_call rfl (ends_s (H := H) ho4 (by omega)) ?_
  rintro _ _ ⟨rfl, rfl⟩
  refine ⟨chk_seq, ?_⟩
  refine sx ?_
  refine s_lif rfl (fun _ => ?_) (fun t => absurd rfl t)
  refine sx ?_
  exact s_ret1 rfl rfl ⟨rfl, rfl⟩
end Go.Sx
