/- Part of a proof: branch.Replace, by the program and by the document. -/
import Derived.Test.YtolnmecncilpeaaCB8
import Derived.Test.YtolnmecncilpeaaCB7
namespace Go.Sx
open Go Go.Proofs
set_option maxRecDepth 10000
variable {w0 : World} {H : List Ck}
theorem RSl.capt {α : Type} [Cel α] {a : Option Addr} {c c' : Nat} {xs : List α} (h : RSl w0 H a c xs) (h1 : xs.length ≤ c') (h2 : c' ≤ c) : RSl w0 H a c' xs := fun w hs => by
  have h' := h w hs
  exact ⟨h1, Nat.le_trans h2 h'.cap, fun e => by have := h'.nil e; omega, h'.cells⟩
abbrev Ksm (k : Kd) : Prop := k.ps.length ≤ 1099511627776 ∧ keysB k.keys ≤ 549755813888
theorem keysB_len : ∀ (ks : List Bs), ks.length ≤ keysB ks ∧ ∀ x ∈ ks, x.length ≤ keysB ks
  | [] => ⟨Nat.zero_le _, fun x h => by cases h⟩
  | x :: r => by
    have := keysB_len r
    simp only [keysB, List.map_cons, List.sum_cons, List.length_cons] at *
    refine ⟨by omega, fun y hy => ?_⟩
    rcases List.mem_cons.1 hy with rfl | h
    · omega
    · have := this.2 y h; omega
abbrev repOk (d b : List Int × List Bs) (i j : Int) : Prop := d.2.length + 1 = d.1.length ∧ b.2.length + 1 = b.1.length ∧ 0 ≤ i ∧ i < j ∧ j ≤ (d.1.length : Int)
def repD (d b : List Int × List Bs) (i j : Nat) : List Int × List Bs := (d.1.take i ++ b.1 ++ d.1.drop j, d.2.take i ++ b.2 ++ d.2.drop (j - 1))
abbrev RepR (d b : List Int × List Bs) (i j : Int) (H : List Ck) : Value → List Ck → Prop := fun v H' => ∃ k : Kd, v = .tuple #[.agg k.cells.toArray, .int .i64 (if repOk d b i j then 0 else 1)] ∧ k.d = (if repOk d b i j then repD d b i.toNat j.toNat else ([], [])) ∧ H' = oK k :: H
theorem repR_1 {d b : List Int × List Bs} {i j : Int} (h : ¬ repOk d b i j) : RepR d b i j H (.tuple #[.agg kd0.cells.toArray, .int .i64 1]) (oK kd0 :: H) := ⟨kd0, by rw [if_neg h], by rw [if_neg h]; rfl, rfl⟩
theorem repR_0 {d b : List Int × List Bs} {i j : Nat} {k : Kd} (h : repOk d b i j) (hk : k.d = repD d b i j) : RepR d b i j H (.tuple #[.agg k.cells.toArray, .int .i64 0]) (oK k :: H) := ⟨k, by rw [if_pos h], by rw [if_pos h, hk]; rfl, rfl⟩
/-- A slice of slices of bytes. -/
structure SSB where
  a : Option Addr
  c : Nat
  xs : List SB
@[reducible] def SSB.val (s : SSB) : Value := .slice s.a s.xs.length s.c
instance : Cel SSB := ⟨1, fun x => [x.val], fun _ => rfl, fun _ => rfl, Nat.one_pos⟩
instance : Row SSB SB := ⟨SSB.a, SSB.c, SSB.xs⟩
instance : ElT Try.prog 29 SSB := ⟨trivial⟩
structure RpI where
  n : Nat
  ka : Option Addr
  kc : Nat
  ks : List SB
set_option maxHeartbeats 4000000 in
theorem breplace_s {k q : Kd} {i j : Int} (hk : RKd w0 H k) (hq : RKd w0 H q) (hi : I64 i) (hj : I64 j) (h1 : Ksm k) (h2 : Ksm q) :
    FnS Try.prog w0 H 23 #[.agg k.cells.toArray, .int .i64 i, .int .i64 j, .agg q.cells.toArray] (RepR k.d q.d i j H) := by
  refine fns_enter Try.func23 rfl rfl rfl ?_
  refine s_kn (Kn.kp hk) fun l1 => s_kn (Kn.kk hk) fun l2 => s_kn (Kn.kp hq) fun l3 => s_kn (Kn.kk hq) fun l4 => ?_
  simp only [maxLen] at l1 l2 l3 l4
  have hps := hk.ps
  have hks := hk.ks
  have hps' := hq.ps
  have hks' := hq.ks
  have hkd : k.d.2.length = k.ks.length := by simp
  have hqd : q.d.2.length = q.ks.length := by simp
  have hkp : k.d.1.length = k.ps.length := rfl
  have hqp : q.d.1.length = q.ps.length := rfl
  refine sx ?_
  refine s_boxA rfl fun b4 => ?_
  refine sx ?_
  refine s_boxA rfl fun b7 => ?_
  refine sx ?_
  refine s_alloc fun b8 => ?_
  refine sx ?_
  refine s_callV rfl (bfits_s (k := k) (by exact rkd)) ?_
  refine sx ?_
  refine s_lifn rfl (fun t1 => ?_) (fun t1 => ?_)
  · refine sx ?_
    exact s_retcv rfl rfl rfl (by exact at_) rfl (repR_1 (fun h => t1 (by have := h.1; omega))) (Ent.trans (H' := H) (by exact ent) hnilK)
  refine sx ?_
  refine s_callV rfl (bfits_s (k := q) (by exact rkd)) ?_
  refine sx ?_
  refine s_lifn rfl (fun t2 => ?_) (fun t2 => ?_)
  · refine sx ?_
    exact s_retcv rfl rfl rfl (by exact at_) rfl (repR_1 (fun h => t2 (by have := h.2.1; omega))) (Ent.trans (H' := H) (by exact ent) hnilK)
  refine sx ?_
  refine s_lif rfl (fun t3 => ?_) (fun t3 => ?_)
  · refine sx ?_
    exact s_retcv rfl rfl rfl (by exact at_) rfl (repR_1 (fun h => by omega)) (Ent.trans (H' := H) (by exact ent) hnilK)
  refine sx ?_
  refine s_lif rfl (fun t4 => ?_) (fun t4 => ?_)
  · refine sx ?_
    exact s_retcv rfl rfl rfl (by exact at_) rfl (repR_1 (fun h => by omega)) (Ent.trans (H' := H) (by exact ent) hnilK)
  refine sx ?_
  refine s_if rfl (fun t5 => ?_) (fun t5 => ?_)
  · refine sx ?_
    exact s_retcv rfl rfl rfl (by exact at_) rfl (repR_1 (fun h => by omega)) (Ent.trans (H' := H) (by exact ent) hnilK)
  obtain ⟨i, rfl⟩ := Int.eq_ofNat_of_zero_le (by omega : 0 ≤ i)
  obtain ⟨j, rfl⟩ := Int.eq_ofNat_of_zero_le (by omega : 0 ≤ j)
  have hok : repOk k.d q.d i j := ⟨by omega, by omega, by omega, by omega, by omega⟩
  refine sx ?_
  refine s_rw (t := 50) rfl (ci (by omega : _ = ((k.ps.length - (j - i) + q.ps.length : Nat) : Int))) ?_
  generalize hC : k.ps.length - (j - i) + q.ps.length = C
  refine s_make0 (α := Int) rfl rfl (by omega) fun a1 => ?_
  refine sx ?_
  refine s_rw (t := 52) (v' := .agg [.slice (some a1) 0 C, .slice none 0 0].toArray) rfl rfl ?_
  refine s_alloc fun b10 => ?_
  have hr1 := (hk.ps.take (k := i) (by omega)).capt (c' := i) (by rw [List.length_take]; omega) (by omega)
  have hr2 := hk.ps.drop (j := j) (by omega)
  have e1 : (k.ps.take i).length = i := by rw [List.length_take]; omega
  have e2 : (k.ps.drop j).length = k.ps.length - j := List.length_drop
  refine sx ?_
  refine sx ?_; refine s_drH (.hb b8 31 [.slice none 0 0, .slice none 0 0] :: .hb b7 31 q.cells :: .hb b4 31 k.cells :: H) (.one true 0 (.one true 2 (.one true 3 (.one true 4 (.one true 5 (.one true 6 (.one true 8 (.one true 9 (.one true 11 (.one true 12 (.one true 13 (.one true 14 (.one false 1 (.one false 7 (.one false 10 (.one false 15 (.one true 16 (.one false 17 .nil)))))))))))))))))) mixed (by kernel_rfl) ?_; refine sx ?_
  refine s_yH rfl rfl rfl (y_slU rfl rfl rfl (by omega)) ?_
  refine sx ?_
  refine s_yA rfl rfl (by exact yy) ?_ (chk_held (by exact ent))
  refine s_app (ys := k.ps.take i) ?_
  intro a2 c2
  refine s_app (ys := q.ps) ?_
  intro a3 c3
  refine s_app (ys := k.ps.drop j) ?_
  intro a5 c5
  refine sx ?_
  have hPe : ([] : List Int) ++ k.ps.take i ++ q.ps ++ k.ps.drop j = k.ps.take i ++ q.ps ++ k.ps.drop j := by simp
  rw [hPe]
  have hPl : (k.ps.take i ++ q.ps ++ k.ps.drop j).length = i + q.ps.length + (k.ps.length - j) := by simp only [List.length_append, e1, e2]
  generalize hP : k.ps.take i ++ q.ps ++ k.ps.drop j = P at hPl
  have hj1 : k.d.2.drop (j - 1) = (k.ks.drop (j - 1)).map SB.xs := by simp
  have hk1 := (hk.ks.take (k := i) (by omega)).capt (c' := i) (by rw [List.length_take]; omega) (by omega)
  have hk2 := hk.ks.drop (j := j - 1) (by omega)
  have f1 : (k.ks.take i).length = i := by rw [List.length_take]; omega
  have f2 : (k.ks.drop (j - 1)).length = k.ks.length - (j - 1) := List.length_drop
  refine sx ?_; refine s_drH (.hb b10 31 [.slice a5 P.length c5, .slice none 0 0] :: ol 3 a5 c5 P :: .hb b8 31 [.slice none 0 0, .slice none 0 0] :: .hb b7 31 q.cells :: .hb b4 31 k.cells :: H) (.one true 0 (.one true 1 (.one true 2 (.one true 3 (.one true 4 (.one true 5 (.one true 6 (.one true 7 (.one true 8 (.one true 9 (.one true 10 (.one true 11 (.one true 14 (.one false 12 (.one true 13 .nil))))))))))))))) mixed (by kernel_rfl) ?_; refine sx ?_
  refine s_yH rfl rfl rfl (y_slU rfl rfl rfl (by omega)) ?_
  refine sx ?_
  refine s_rw (t := 80) rfl (ci (by omega : _ = ((j - 1 : Nat) : Int))) ?_
  refine sx ?_
  generalize hls : [(⟨k.ka, i, k.ks.take i⟩ : SSB), ⟨q.ka, q.kc, q.ks⟩, ⟨Sx.sl k.ka k.kc (j - 1) 1, k.kc - (j - 1), k.ks.drop (j - 1)⟩] = ls
  have hll : ls.length = 3 := by rw [← hls]; rfl
  refine s_bsl ls rfl (by rw [← hls]; simp only [flat, List.flatMap_cons, List.flatMap_nil, Cel.f, SSB.val, f1, f2]; rfl) fun kk => ?_
  refine sx ?_
  have hle : ∀ l ∈ ls, RSl w0 H l.a l.c l.xs ∧ ∀ p ∈ l.xs, RBy w0 H p.a p.c p.xs ∧ p.xs.length ≤ 549755813888 := by
    have hkl := (keysB_len k.keys).2
    have hql := (keysB_len q.keys).2
    intro l hl
    rw [← hls] at hl
    simp only [List.mem_cons, List.not_mem_nil, or_false] at hl
    rcases hl with rfl | rfl | rfl
    · exact ⟨hk1, fun p hp => ⟨hk.el p (List.mem_of_mem_take hp), by have := hkl p.xs (List.mem_map.2 ⟨p, List.mem_of_mem_take hp, rfl⟩); omega⟩⟩
    · exact ⟨hq.ks, fun p hp => ⟨hq.el p hp, by have := hql p.xs (List.mem_map.2 ⟨p, hp, rfl⟩); omega⟩⟩
    · exact ⟨hk2, fun p hp => ⟨hk.el p (List.mem_of_mem_drop hp), by have := hkl p.xs (List.mem_map.2 ⟨p, List.mem_of_mem_drop hp, rfl⟩); omega⟩⟩
  have hall : ls.flatMap (fun l => l.xs.map SB.xs) = (repD k.d q.d i j).2 := by
    rw [← hls]
    simp [repD]
  have hal : (ls.flatMap (fun l => l.xs.map SB.xs)).length ≤ 2199023255552 := by
    rw [hall]
    have := (keysB_len k.keys).1
    have := (keysB_len q.keys).1
    simp only [repD, List.length_append, List.length_take, List.length_drop]
    omega
  have hpre : ∀ m, ((ls.take m).flatMap (fun l => l.xs.map SB.xs)).length ≤ (ls.flatMap (fun l => l.xs.map SB.xs)).length := fun m => by
    conv => rhs; rw [← List.take_append_drop m ls, List.flatMap_append]
    rw [List.length_append]; omega
  refine s_loop (fun m : RpI => [(10, .pointer (some ⟨b10, 0, none⟩)), (8, .pointer (some ⟨b8, 0, none⟩)), (82, .slice (some ⟨kk, 0, none⟩) 3 3), (83, .int .i64 3), (84, .int .i64 m.n)])
    (fun m => .hb b10 31 [.slice a5 P.length c5, .slice m.ka m.ks.length m.kc] :: ol 3 a5 c5 P :: ol 29 (some ⟨kk, 0, none⟩) 3 ls :: ol 23 m.ka m.kc m.ks :: fam 5 m.ks :: .hb b8 31 [.slice none 0 0, .slice none 0 0] :: H)
    (fun m => m.n ≤ 3 ∧ m.ks.map SB.xs = (ls.take m.n).flatMap (fun l => l.xs.map SB.xs)) (fun m => 3 - m.n) ⟨0, none, 0, []⟩ ⟨Nat.zero_le _, rfl⟩ ?_ (he := by
      refine Ent.cons (by exact rm) ?_
      refine Ent.cons (by exact rm) ?_
      refine Ent.cons (by exact rm) ?_
      refine Ent.nilS.trans (Ent.head ?_)
      refine fam_nil.trans (Ent.head ?_)
      exact ent)
  rintro ⟨m, ka, kc, ks⟩ ⟨hm, hkm⟩
  simp only at hm hkm ⊢
  refine sx ?_
  refine s_if rfl (fun t6 => ?_) (fun t6 => ?_)
  · obtain ⟨l, hl⟩ := get_lt ls m (by omega)
    obtain ⟨hl1, hl2⟩ := hle l (List.mem_of_getElem? hl)
    have hfs := flatS (fun l : SSB => l.xs.map SB.xs) hl
    refine s_kn (Kn.sl (RSl.tl (RSl.tl (RSl.tl (RSl.tl (RSl.tl (RSl.tl hl1))))))) fun l5 => ?_
    simp only [maxLen] at l5
    refine sx ?_
    refine s_loop (fun x : RpI => [(10, .pointer (some ⟨b10, 0, none⟩)), (8, .pointer (some ⟨b8, 0, none⟩)), (82, .slice (some ⟨kk, 0, none⟩) 3 3), (83, .int .i64 3), (84, .int .i64 m), (88, .slice l.a l.xs.length l.c), (89, .int .i64 l.xs.length), (90, .int .i64 x.n)])
      (fun m => .hb b10 31 [.slice a5 P.length c5, .slice m.ka m.ks.length m.kc] :: ol 3 a5 c5 P :: ol 29 (some ⟨kk, 0, none⟩) 3 ls :: ol 23 m.ka m.kc m.ks :: fam 5 m.ks :: .hb b8 31 [.slice none 0 0, .slice none 0 0] :: H)
      (fun x => x.n ≤ l.xs.length ∧ x.ks.map SB.xs = (ls.take m).flatMap (fun l => l.xs.map SB.xs) ++ (l.xs.take x.n).map SB.xs) (fun x => l.xs.length - x.n) ⟨0, ka, kc, ks⟩ ⟨Nat.zero_le _, by simp only [List.take_zero, List.map_nil, List.append_nil]; exact hkm⟩ ?_
    rintro ⟨x, ka, kc, ks⟩ ⟨hx, hkx⟩
    simp only at hx hkx ⊢
    have hkl2 : ks.length ≤ 2199023255552 := by
      have h3 := congrArg List.length hkx
      have h4 := hpre (m + 1)
      rw [hfs, List.length_append, List.length_map] at h4
      rw [List.length_append, List.length_map, List.length_map, List.length_take] at h3
      omega
    refine sx ?_
    refine s_if rfl (fun t7 => ?_) (fun t7 => ?_)
    · obtain ⟨p, hp⟩ := get_lt l.xs x (by omega)
      obtain ⟨hpb, hpl⟩ := hl2 p (List.mem_of_getElem? hp)
      refine sx ?_
      refine sx ?_; refine s_drH (ol 3 a5 c5 P :: ol 29 (some ⟨kk, 0, none⟩) 3 ls :: .hb b8 31 [.slice none 0 0, .slice none 0 0] :: H) (.one true 0 (.one true 2 (.alt (.one false 1 (.one false 3 (.one false 4 (.one false 5 (.one true 6 (.one false 7 .nil)))))) (.one false 3 (.alt (.one false 1 (.one false 4 (.one false 5 (.one true 6 (.one false 7 .nil))))) (.one false 4 (.one false 1 (.one false 5 (.one true 6 (.one false 7 .nil)))))))))) mixed (by kernel_rfl) ?_; refine sx ?_
      refine s_alt ?_ ?_
      · refine s_yA rfl rfl (by exact yy) ?_ (chk_held (by exact ent))
        refine s_call rfl (own_s (xs := p.xs) (by exact rby) (by omega)) ?_
        rintro _ _ ⟨a1, rfl, rfl⟩
        refine ⟨chk_held (by exact ent), ?_⟩
        refine s_bsl [(⟨a1, p.xs.length, p.xs⟩ : SB)] rfl rfl fun b9 => ?_
        refine s_app ?_
        intro ka' kc'
        refine sx ?_
        refine s_again ⟨x + 1, ka', kc', ks ++ [⟨a1, p.xs.length, p.xs⟩]⟩ ⟨by simp only; omega, ?_⟩ (by simp only; omega) (he := ?_)
        · simp only [List.map_append, List.map_cons, List.map_nil]
          rw [hkx, snocT hp, List.map_append, List.append_assoc]
          rfl
        · refine Ent.cons (by exact rm) ?_
          refine Ent.cons (by exact rm) ?_
          refine Ent.cons (by exact rm) ?_
          refine Ent.cons (by exact rm) ?_
          exact Ent.famS (by exact rm) (by exact rm) (by exact ent)
      · refine s_call rfl (own_s (xs := p.xs) (by exact rby) (by omega)) ?_
        rintro _ _ ⟨a1, rfl, rfl⟩
        refine ⟨chk_held (by exact ent), ?_⟩
        refine s_alt ?_ ?_
        · refine s_yA rfl rfl (by exact yy) ?_ (chk_held (by exact ent))
          refine s_bsl [(⟨a1, p.xs.length, p.xs⟩ : SB)] rfl rfl fun b9 => ?_
          refine s_app ?_
          intro ka' kc'
          refine sx ?_
          refine s_again ⟨x + 1, ka', kc', ks ++ [⟨a1, p.xs.length, p.xs⟩]⟩ ⟨by simp only; omega, ?_⟩ (by simp only; omega) (he := ?_)
          · simp only [List.map_append, List.map_cons, List.map_nil]
            rw [hkx, snocT hp, List.map_append, List.append_assoc]
            rfl
          · refine Ent.cons (by exact rm) ?_
            refine Ent.cons (by exact rm) ?_
            refine Ent.cons (by exact rm) ?_
            refine Ent.cons (by exact rm) ?_
            exact Ent.famS (by exact rm) (by exact rm) (by exact ent)
        · refine s_bsl [(⟨a1, p.xs.length, p.xs⟩ : SB)] rfl rfl fun b9 => ?_
          refine s_yA rfl rfl (by exact yy) ?_ (chk_held (by exact ent))
          refine s_app ?_
          intro ka' kc'
          refine sx ?_
          refine s_again ⟨x + 1, ka', kc', ks ++ [⟨a1, p.xs.length, p.xs⟩]⟩ ⟨by simp only; omega, ?_⟩ (by simp only; omega) (he := ?_)
          · simp only [List.map_append, List.map_cons, List.map_nil]
            rw [hkx, snocT hp, List.map_append, List.append_assoc]
            rfl
          · refine Ent.cons (by exact rm) ?_
            refine Ent.cons (by exact rm) ?_
            refine Ent.cons (by exact rm) ?_
            refine Ent.cons (by exact rm) ?_
            exact Ent.famS (by exact rm) (by exact rm) (by exact ent)
    · obtain rfl : x = l.xs.length := by omega
      refine sx ?_
      refine s_again ⟨m + 1, ka, kc, ks⟩ ⟨by simp only; omega, ?_⟩ (by simp only; omega)
      simp only
      rw [hkx, hfs, List.take_length]
  · obtain rfl : m = 3 := by omega
    refine sx ?_
    refine s_retcv rfl rfl rfl (by exact at_) rfl (repR_0 (k := ⟨a5, c5, P, ka, kc, ks⟩) hok ?_) ?_
    · rw [List.take_of_length_le (by omega), hall] at hkm
      exact Prod.ext (by rw [← hP]; rfl) hkm
    · exact Ent.oK (k := ⟨a5, c5, P, ka, kc, ks⟩) (by exact rm) (by exact rm) (by exact rm) (by exact ent)
end Go.Sx
