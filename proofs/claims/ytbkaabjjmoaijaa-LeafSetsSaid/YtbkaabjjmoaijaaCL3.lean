/- Part of a proof: walks through functions of the program, in the words of the calculus of the texts Sx. -/
import Derived.Test.YtbkaabjjmoaijaaCL2
import Derived.Test.YtbkaabjjmoaijaaCKA
namespace Go.Sx
open Go Go.Proofs
set_option maxRecDepth 10000

def two8 (n : Nat) : Bs := [UInt8.ofNat (n / 256), UInt8.ofNat n]
theorem bv_of (n : Nat) (k : Int) (h : k = n) : Value.int .u8 (IntKind.u8.wrap k) = bv (UInt8.ofNat n) := by
  subst h; rw [wrap_u8]; rfl
/-- append onto bytes of one's own, as a step. -/
theorem l_appB {M : Mode} {P : Program} {n : Nat} {ds : List Deferred} {ops : Array Oper} {Q : Exit → Act → World → Prop} {b : Bool} {rest : Tr} {l : List (Nat × Value)} {w : World}
    {ty : TypeId} {pos : String} {af : Array Edge} {g : Option (Nat × Bool)} {d : Nat} {T E : TypeId} [hT : SlT P T E 1 1] {s x : Operand} {B : Nat} {a a2 : Option Addr} {c m c2 k : Nat} {xs ys : Bs} (hb : (M.any || !b) = true) (hg : gOk ops l g = true) (hd : Nat.blt d n = true)
    (hs : ev l s = some (.slice a k c)) (hx : ev l x = some (.slice a2 m c2)) (hk : k = xs.length) (hown : OwB w B E a c xs) (hsrc : Src w a2 (ys.map bv)) (hnil : a2 = none → c2 = 0) (hm : m = ys.length)
    (hle : xs.length + ys.length ≤ 140737488355328) (hB : B ≤ w.heap.size)
    (h : ∀ a' c' w', OwB w' B E a' c' (xs ++ ys) → Grow w a w' a' → M.chk w' ∧ LJ M P n ds ops Q rest ((d, .slice a' (xs ++ ys).length c') :: l) w') :
    LJ M P n ds ops Q (.one b ⟨some d, .call { callee := .builtin .append, args := #[s, x], argTypes := #[T, T] }, ty, pos, af, g⟩ rest) l w := by
  subst hk; subst hm
  refine l_app (by decide) hb hg hd hs hx hown hsrc hnil (by simp) (one_bv ys) (by omega) (by simp only [maxLen]; omega) hB ?_
  intro a' c' w' h1 h2 h3
  rw [← List.map_append, ← List.length_append] at h1
  have := h a' c' w' h1 ⟨h2, h3⟩
  rwa [List.length_append] at this

theorem twoP_go (w : World) (B : Nat) (hB : B ≤ w.heap.size) (a : Option Addr) (c : Nat) (xs : Bs) (ho : OwB w B 5 a c xs) (hx : xs.length ≤ 17592186044416) (m : Nat) :
    Fn Try.prog 55 #[.slice a xs.length c, .int .i64 m] w (fun v w' => ∃ a' c', v = .slice a' (xs ++ two8 m).length c' ∧ OwB w' B 5 a' c' (xs ++ two8 m) ∧ Grow w a w' a') := by
  refine fn_enter Try.func55 rfl rfl rfl ?_
  refine sxo ?_
  refine l_bsl rfl rfl rfl rfl (by rfl) (by rfl) (by rfl) ?_
  intro b w1 hN
  refine ⟨trivial, ?_⟩
  have hB1 : HB w1 b 5 ((two8 m).map bv) := by
    have := hN.hb
    simp only [List.flatMap_cons, List.flatMap_nil, Value.cells] at this
    rw [bv_of (m / 256) _ (by omega), bv_of m _ rfl] at this
    exact this
  refine l_appB rfl rfl rfl rfl rfl rfl (ho.ex hN.ex) hB1.src (by intro h; cases h) rfl (by simp [two8]; omega) (by have := hN.ex.size; omega) ?_
  intro a' c' w2 ho2 hG
  refine ⟨trivial, ?_⟩
  refine sxo ?_
  refine q_ret1 rfl rfl ⟨a', c', rfl, ho2, ?_⟩
  have hS := hN.ex.size
  exact ⟨hN.ex.ext.trans hG.ext, fun ad e => (hG.fr ad e).imp id (fun h => by omega)⟩
theorem twoR_go (w : World) (B : Nat) (hB : B ≤ w.heap.size) (a : Option Addr) (c : Nat) (xs : Bs) (ho : OwB w B 5 a c xs) (hx : xs.length ≤ 17592186044416) (m : Nat) :
    Fn Try.prog 70 #[.slice a xs.length c, .int .i64 m] w (fun v w' => ∃ a' c', v = .slice a' (xs ++ two8 m).length c' ∧ OwB w' B 5 a' c' (xs ++ two8 m) ∧ Grow w a w' a') := by
  refine fn_enter Try.func70 rfl rfl rfl ?_
  refine sxo ?_
  refine l_bsl rfl rfl rfl rfl (by rfl) (by rfl) (by rfl) ?_
  intro b w1 hN
  refine ⟨trivial, ?_⟩
  have hB1 : HB w1 b 5 ((two8 m).map bv) := by
    have := hN.hb
    simp only [List.flatMap_cons, List.flatMap_nil, Value.cells] at this
    rw [bv_of (m / 256) _ (by omega), bv_of m _ rfl] at this
    exact this
  refine l_appB rfl rfl rfl rfl rfl rfl (ho.ex hN.ex) hB1.src (by intro h; cases h) rfl (by simp [two8]; omega) (by have := hN.ex.size; omega) ?_
  intro a' c' w2 ho2 hG
  refine ⟨trivial, ?_⟩
  refine sxo ?_
  refine q_ret1 rfl rfl ⟨a', c', rfl, ho2, ?_⟩
  have hS := hN.ex.size
  exact ⟨hN.ex.ext.trans hG.ext, fun ad e => (hG.fr ad e).imp id (fun h => by omega)⟩

/-! ### Plain: what is encoded -/
def encE (p : Bs) (e : Bs × Bs) : Bs := two8 (common p e.1) ++ two8 (e.1.length - common p e.1) ++ two8 e.2.length ++ e.1.drop (common p e.1) ++ e.2
def encL : Bs → Ps → Bs
  | _, [] => []
  | p, e :: r => encE p e ++ encL e.1 r
def encodeL (ps : Ps) : Bs := two8 ps.length ++ encL [] ps
theorem encE_len (p : Bs) (e : Bs × Bs) : (encE p e).length = 6 + e.1.length - common p e.1 + e.2.length := by
  have := (common_le p e.1).2
  simp [encE, two8]; omega
theorem encL_len : ∀ (p : Bs) (ps : Ps), (encL p ps).length = sumB p ps
  | _, [] => rfl
  | p, e :: r => by simp only [encL, sumB, List.length_append, encE_len, encL_len e.1 r]
theorem encL_snoc : ∀ (p : Bs) (l : Ps) (e : Bs × Bs), encL p (l ++ [e]) = encL p l ++ encE (lastK p l) e
  | p, [], e => by simp [encL, lastK]
  | p, x :: r, e => by simp only [List.cons_append, encL, lastK, encL_snoc x.1 r e, List.append_assoc]
theorem encL_take {ps : Ps} {i : Nat} {e : Bs × Bs} (h : ps[i]? = some e) : encL [] (ps.take (i + 1)) = encL [] (ps.take i) ++ encE (prevK ps i) e := by
  rw [take_snoc' h, encL_snoc, lastK_take ps i (by have := get_lt' h; omega)]
theorem encL_take_le (ps : Ps) (i : Nat) : (encL [] (ps.take i)).length ≤ 6 * wt ps := by rw [encL_len]; exact sumB_take_le ps i

/-- What Encode answers. -/
def EncPost (w : World) (size : Int) (ps : Ps) (v : Value) (w' : World) : Prop :=
  ∃ a c bs, v = .tuple #[.slice a bs.length c, .int .i64 (chkL size ps)] ∧ Ex w w' ∧ OwB w' w.heap.size 5 a c bs ∧ bs = if chkL size ps = 0 then encodeL ps else []

set_option maxHeartbeats 1000000 in
theorem encode_go (w : World) (a : Option Addr) (c : Nat) (es : List KV) (hs : En w a c es) (hS : Small (es.map KV.p)) (size : Int) (hz : -9223372036854775808 ≤ size ∧ size ≤ 9223372036854775807) :
    Fn Try.prog 26 #[.int .i64 size, .slice a es.length c] w (EncPost w size (es.map KV.p)) := by
  have hl := hs.len
  have hwl := wt_len (es.map KV.p)
  simp only [List.length_map] at hwl
  refine fn_enter Try.func26 rfl rfl rfl ?_
  refine sxo ?_
  refine l_call rfl rfl rfl rfl (check_go w a c es hs hS size hz) ?_; rintro _ w1 ⟨rfl, hE1⟩; refine ⟨trivial, ?_⟩
  refine sxo ?_
  refine c_ifn rfl (fun t1 => ?_) (fun t1 => ?_)
  · refine sxo ?_
    exact q_ret2 rfl rfl rfl ⟨none, 0, [], rfl, hE1, Own.nil .., by rw [if_neg t1]⟩
  · have hs1 := hs.ex hE1
    have hS1 := hE1.size
    have hbl := sumB_le [] (es.map KV.p)
    refine sxo ?_
    refine l_call rfl rfl rfl rfl (bytes_go w1 a c es hs1 hS) ?_; rintro _ w2 ⟨rfl, hE2⟩; refine ⟨trivial, ?_⟩
    have hbb : bytesL (es.map KV.p) = 2 + sumB [] (es.map KV.p) := rfl
    have hS2 := hE2.size
    refine sxo ?_
    refine l_make0 rfl rfl rfl rfl rfl (by omega) (by simp only [maxLen]; omega) ?_
    intro ad w3 hO3 hE3
    refine ⟨trivial, ?_⟩
    have hS3 := hE3.size
    have hO3' : OwB w3 w.heap.size 5 (some ad) (bytesL (es.map KV.p)) [] := Own.mono hO3 (by omega)
    refine sxo ?_
    refine l_call rfl rfl rfl rfl (twoP_go w3 w.heap.size (by omega) _ _ [] hO3' (by simp) es.length) ?_; rintro _ w4 ⟨a4, c4, rfl, ⟨hO4, hG4⟩⟩; refine ⟨trivial, ?_⟩
    have hE4 : Ex w w4 := hG4.ex0 ((hE1.trans hE2).trans hE3) hO3' (Nat.le_refl _)
    refine sxo ?_
    refine c_loop (fun x : Nat × Option Addr × Nat => [(0, .int .i64 size), (1, .slice a es.length c), (23, .slice a es.length c), (24, .int .i64 es.length), (25, .int .i64 x.1), (7, .slice x.2.1 (two8 es.length ++ encL [] ((es.map KV.p).take x.1)).length x.2.2)])
      (fun x w' => Ex w w' ∧ x.1 ≤ es.length ∧ OwB w' w.heap.size 5 x.2.1 x.2.2 (two8 es.length ++ encL [] ((es.map KV.p).take x.1))) (fun x => es.length - x.1) (0, a4, c4) (by exact ⟨rfl, rfl, rfl, rfl, rfl, rfl, trivial⟩) ⟨hE4, Nat.zero_le _, hO4⟩ ?_
    rintro ⟨k, a5, c5⟩ w5 ⟨hE5, hk, hO5⟩
    simp only at hk hO5 ⊢
    have hS5 := hE5.size
    refine sxo ?_
    refine c_if rfl (fun hlt => ?_) (fun hge => ?_)
    · obtain ⟨e, he⟩ := get_lt es k (by omega)
      obtain ⟨ad0, rfl⟩ := hs.some (by omega)
      have hs5 := hs.ex hE5
      have hw := wt_get (map_get he)
      simp only at hw
      have hka : keyAt (es.map KV.p) k = e.k := keyAt_get (map_get he)
      have hcl := (common_le (prevK (es.map KV.p) k) e.k).2
      have hel := encL_take_le (es.map KV.p) k
      refine sxo ?_
      refine l_alloc rfl rfl rfl ?_; intro b w6 hNb; refine ⟨trivial, ?_⟩; have hZb : HB w6 b 47 [.slice none 0 0, .slice none 0 0] := hNb.hb; (refine sxo ?_); refine l_storeA (o := 0) rfl rfl rfl rfl hZb (Nat.le_refl _) rfl rfl ?_; intro w7 hQb hXb hSb; refine ⟨trivial, ?_⟩; have hBb : HB w7 b 47 e.cells := hQb; have hEb : Ex w5 w7 := (hNb.ex).fresh hXb (by intro i hi h; subst h; have := hNb.at_; omega); clear hQb hZb
      have hE7 := hE5.trans hEb
      have hs7 := hs5.ex hEb
      have hO7 := hO5.ex hEb
      refine sxo ?_
      refine l_call rfl rfl rfl rfl (alike_go w7 _ _ _ hs7 k (by omega)) ?_; rintro _ w8 ⟨rfl, hE8⟩; refine ⟨trivial, ?_⟩
      rw [hka]
      have hO8 := hO7.ex hE8
      have hB8 := hBb.ex hE8
      have hE08 := hE7.trans hE8
      have hs8 := hs7.ex hE8
      have hne : ¬ blk a5 = some b := hO5.ne (by have := hNb.at_; omega)
      refine sxo ?_
      refine c_dr (fun i => blk a5 = some i) (.one true 0 (.one true 1 (.one true 3 (.one true 4 (.one true 5 (.one true 6 (.one true 7 (.one true 9 (.one true 10 (.one true 11 (.one false 2 (.one false 8 (.one false 12 (.one true 13 .nil)))))))))))))) mixed (by kernel_rfl) ?_
      intro w9 hE9 hh9
      have hng := hne
      have hO9 := hO8.ex hE9
      have hS9 := (hE08.trans hE9).size
      have hT9 : Grow w8 a5 w9 a5 := (Grow.refl w8 a5).ex hE9
      have h2l : (two8 es.length).length = 2 := rfl
      refine sxo ?_
      refine l_call rfl rfl rfl rfl (twoP_go w9 w.heap.size hS9 a5 c5 _ hO9 (by simp only [List.length_append]; omega) (common (prevK (es.map KV.p) k) e.k)) ?_; rintro _ w10 ⟨a10, c10, rfl, ⟨hO10, hG10⟩⟩; have hT10 := hT9.trans hG10; refine ⟨hT10.ext, ?_⟩
      refine sxo ?_
      refine l_rw (t := 40) rfl (ci (by omega : _ = ((e.k.length - common (prevK (es.map KV.p) k) e.k : Nat) : Int))) ?_
      refine sxo ?_
      refine l_call rfl rfl rfl rfl (twoP_go w10 w.heap.size (by have := hG10.ext.size; omega) a10 c10 _ hO10 (by simp only [List.length_append]; simp only [two8, List.length_cons, List.length_nil]; omega) (e.k.length - common (prevK (es.map KV.p) k) e.k)) ?_; rintro _ w11 ⟨a11, c11, rfl, ⟨hO11, hG11⟩⟩; have hT11 := hT10.trans hG11; refine ⟨hT11.ext, ?_⟩
      refine sxo ?_
      refine l_call rfl rfl rfl rfl (twoP_go w11 w.heap.size (by have := hG10.ext.size; have := hG11.ext.size; omega) a11 c11 _ hO11 (by simp only [List.length_append]; simp only [two8, List.length_cons, List.length_nil]; omega) e.v.length) ?_; rintro _ w12 ⟨a12, c12, rfl, ⟨hO12, hG12⟩⟩; have hT12 := hT11.trans hG12; refine ⟨hT12.ext, ?_⟩
      refine sxo ?_
      have hB12 := hB8.ext hT12.ext hne
      have hE012 : Ex w w12 := hT12.ex0 hE08 hO8 (Nat.le_refl _)
      have hne12 := hT12.ne hB8.lt hne
      have hs12 := hs.ex hE012
      clear hng
      refine c_dr (fun i => blk a12 = some i) (.one true 0 (.one true 1 (.one true 2 (.one true 3 (.one true 4 (.one true 6 (.one true 7 (.one false 5 (.one false 8 (.one true 9 .nil)))))))))) mixed (by kernel_rfl) ?_
      intro w13 hE13 hh13
      have hng := hne12
      have hO13 := hO12.ex hE13
      have hE013 := hE012.trans hE13
      have hs13 := hs.ex hE013
      have hT13 : Grow w12 a12 w13 a12 := (Grow.refl w12 a12).ex hE13
      have hkle := (hs13.at he).1.le
      have hlen12 : ((two8 es.length ++ encL [] ((es.map KV.p).take k)) ++ two8 (common (prevK (es.map KV.p) k) e.k) ++ two8 (e.k.length - common (prevK (es.map KV.p) k) e.k) ++ two8 e.v.length).length = 8 + (encL [] ((es.map KV.p).take k)).length := by
        simp only [List.length_append, two8, List.length_cons, List.length_nil]; omega
      refine sxo ?_
      refine l_appB rfl rfl rfl rfl rfl rfl hO13 ((hs13.at he).1.drop hcl).src ?_ (by simp) (by rw [hlen12]; simp; omega) (by have := hE013.size; omega) ?_
      · intro h
        have := ((hs13.at he).1.drop hcl).nil h
        exact this
      intro a14 c14 w14 hO14 hG14
      have hT14 := hT13.trans hG14
      refine ⟨hT14.ext, ?_⟩
      have hE014 : Ex w w14 := hT14.ex0 hE012 hO12 (Nat.le_refl _)
      have hs14 := hs.ex hE014
      refine sxo ?_
      refine l_appB rfl rfl rfl rfl rfl rfl hO14 (hs14.at he).2.src (hs14.at he).2.nil rfl (by rw [List.length_append, hlen12]; simp; omega) (by have := hE014.size; omega) ?_
      intro a15 c15 w15 hO15 hG15
      have hT15 := hT14.trans hG15
      refine ⟨hT15.ext, ?_⟩
      have hE015 : Ex w w15 := hT15.ex0 hE012 hO12 (Nat.le_refl _)
      refine sxo ?_
      have hfin : (two8 es.length ++ encL [] ((es.map KV.p).take k)) ++ two8 (common (prevK (es.map KV.p) k) e.k) ++ two8 (e.k.length - common (prevK (es.map KV.p) k) e.k) ++ two8 e.v.length ++ e.k.drop (common (prevK (es.map KV.p) k) e.k) ++ e.v =
          two8 es.length ++ encL [] ((es.map KV.p).take (k + 1)) := by
        rw [encL_take (map_get he)]; simp only [encE, List.append_assoc]
      rw [hfin] at hO15 ⊢
      refine q_again (k + 1, a15, c15) ⟨rfl, rfl, rfl, rfl, rfl, rfl, trivial⟩ ⟨hE015, by simp only; omega, hO15⟩ (by simp only; omega)
    · have hke : k = es.length := by omega
      subst hke
      have hfin : encL [] ((es.map KV.p).take es.length) = encL [] (es.map KV.p) := by rw [List.take_of_length_le (by simp)]
      rw [hfin] at hO5 ⊢
      refine sxo ?_
      refine q_ret2 rfl rfl rfl ⟨a5, c5, _, ?_, hE5, hO5, ?_⟩
      · rw [t1]
      · rw [if_pos t1, encodeL]; simp
end Go.Sx
