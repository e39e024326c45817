/- Part of a proof: what is made of a telling, step by step, and what it must tell. -/
import Derived.Test.YtpnhoafmlhlfgaaGreatCPKj
import Derived.Test.YtpnhoafmlhlfgaaGreatCPR
import Derived.Test.YtpnhoafmlhlfgaaGreatCPT
namespace Go.Sx
open Go Go.Proofs
set_option maxRecDepth 10000
variable {w0 : World} {H : List Ck}
/-- No great keys, no great values. -/
def SzL (L : List Pp) : Prop := ∀ p ∈ L, p.1.length ≤ 2147483647 ∧ p.2.length ≤ 2147483647
theorem SzL.sm {L : List Pp} (h : SzL L) : SmL L := fun p hp => by
  have := h p hp
  omega
theorem sz_of {es : List KV} (h : sumG es ≤ 2147483647) : SzL (es.map KV.p) := fun p hp => by
  obtain ⟨e, he, rfl⟩ := List.mem_map.1 hp
  have := sumG_mem he
  show e.k.length ≤ _ ∧ e.v.length ≤ _
  omega
theorem un_sz {ls : List (List Pp)} (h : ∀ l ∈ ls, SzL l) : SzL (unionL ls) := fun e he => by
  obtain ⟨l, hl, hel⟩ := unN_mem _ _ e he
  exact h l hl e hel
theorem wi_sz {ms : List MD} {L : List Pp} (hL : SzL L) (hm : sumM ms ≤ 2147483647) : SzL (wiM ms L) := fun p hp => by
  rcases withL_mem hp with hp | hp
  · obtain ⟨m, h1, h2, h3⟩ := puts_mem hp
    rw [← h2, ← h3]
    have := sumM_memG h1
    simp only [lenM] at this
    omega
  · exact hL p hp
theorem in_sz {r : T3} {L : List Pp} (hL : SzL L) : SzL (inL r L) := fun p hp => hL p (in_sub.subset hp)
theorem in_flt {r : T3} {L : List Pp} (h : RiL L) : inL r L = L.filter (fun p => hasB r p.1) := by
  have h2 : RiL (L.filter (fun p => hasB r p.1)) := h.sublist List.filter_sublist
  refine (in_ri h).uniq h2 fun k => Option.ext fun v => ?_
  rw [getL_iff (in_ri h), getL_iff h2, in_mem h, List.mem_filter]
theorem getE_app (a b : List KV) (k : Bs) : getE (a ++ b) k = match getE b k with
    | some v => some v
    | none => getE a k := by
  unfold getE
  rw [List.filter_append, List.getLast?_append]
  cases (b.filter (kf k)).getLast? <;> rfl
/-- Two lists, the second one counts behind the first. -/
theorem un_pair {A B : List KV} {s out : List KV} (hA : RiL (A.map KV.p)) (hB : RiL (B.map KV.p)) (hM : Mrg (B ++ A) s) (ho : out.map KV.p = (lastsE s).map KV.p) : unionL [A.map KV.p, B.map KV.p] = out.map KV.p := by
  obtain ⟨h1, h2⟩ := map_says hM ho
  refine un_eq (fun l hl => ?_) h1 fun k => ?_
  · simp only [List.mem_cons, List.not_mem_nil, or_false] at hl
    rcases hl with rfl | rfl
    · exact hA
    · exact hB
  · rw [h2 k, getE_app, ← getL_map, ← getL_map]
    simp only [fstL]
    cases getL (A.map KV.p) k <;> cases getL (B.map KV.p) k <;> rfl
theorem g13with_s {a b : Option Addr} {c d : Nat} {es : List KV} {ms : List Mg} (hx : RSl w0 H a c es) (hr : ∀ e ∈ es, REe w0 H e) (hm : RMs w0 H b d ms) (hl : es.length + ms.length ≤ 137438953472) (hz : ∀ m ∈ ms, m.lo.length ≤ 140737488355327 ∧ m.hi.length ≤ 140737488355328 ∧ m.v.length ≤ 140737488355328) (hy : ∀ e ∈ es, e.k.length ≤ 140737488355328 ∧ e.v.length ≤ 140737488355328) :
    FnS Tryz.prog w0 H 31 #[.slice a es.length c, .slice b ms.length d] (fun v H' => ∃ a' c' out, v = .slice a' (out : List KV).length c' ∧ IsApp es (ms.map Mg.d) out ∧ out.length ≤ es.length + 2 * ms.length ∧ H' = ol 51 a' c' out :: stars oKVs out :: H) := by
  refine fns_enter Tryz.func31 rfl rfl rfl ?_
  refine sx ?_
  refine s_call rfl (rapply_s hx hr hm hl hz hy) ?_
  rintro _ _ ⟨a1, c1, out, rfl, h1, h2, rfl⟩
  refine ⟨chk_seq, ?_⟩
  refine sx ?_
  exact s_ret1 rfl rfl ⟨a1, c1, out, rfl, h1, h2, rfl⟩
/-! A telling that is made, where it lies. -/
abbrev vnl : Value := .slice none 0 0
structure MdI where
  i : Nat
  k : Nat
  cap : List Value
  D : List Ck
  ws : List Pb
  wa : Option Addr
  wc : Nat
  la : Option Addr
  lc : Nat
  out : List KV
@[reducible] def MdI.v (q : MdI) : Value := .func (.func q.k) #[] q.cap.toArray
@[reducible] def mdP (W : Nat) (q : MdI) (H : List Ck) : List Ck := .hb W 34 [vnl, vnl, .slice q.wa q.ws.length q.wc, vnl, .int .i64 0] :: ol 53 q.wa q.wc q.ws :: stars exL q.ws :: .star q.D :: ol 51 q.la q.lc q.out :: stars oKVs q.out :: H
structure MdOk (w0 : World) (T : Nat → Ck) (B : Nat) (ss : List Stp) (q : MdI) : Prop where
  rt : RT w0 T (stars exL q.ws) q.D q.v (q.out.map KV.p)
  ri : RiL (q.out.map KV.p)
  sz : SzL (q.out.map KV.p)
  ln : q.out.length ≤ B + sumS (ss.take q.i)
  wl : q.ws.length ≤ q.i
  le : q.i ≤ ss.length
instance : ElT Tryz.prog 53 Pb := ⟨trivial⟩
section
variable {S : World → Prop} {l : List (Nat × Value)} {d : Option Nat} {ty : TypeId} {pos : String} {af : Array Edge} {g : Option (Nat × Bool)}
theorem y_nefn {x : Operand} {U : TypeId} {f : Go.Fn} {a c : Array Value} (hx : ev l x = some (.func f a c)) : Y Tryz.prog S ⟨d, .binOp .neq 40 x (.const .nilFunc) U, ty, pos, af, g⟩ l (.bool true) := .mk fun w _ ρ hρ => by
  have h2 := hρ (.const .nilFunc) _ rfl
  have h3 : ∀ (f : Go.Fn) (a c : Array Value) (w : World), (binOp .neq 40 (.func f a c) .nilFunc).run Tryz.prog w = .ok (.bool true) w := fun _ _ _ _ => by kernel_rfl
  simp [execOp, hρ _ _ hx, h2, eqGuard_at_func, h3]
end
theorem two_get {α β : Type} {a b : α} {c d : β} {R : α → β → Prop} (h1 : R a c) (h2 : R b d) : ∀ (i : Nat) (f : α) (l : β), [a, b][i]? = some f → [c, d][i]? = some l → R f l
  | 0, _, _, hf, hl => by cases hf; cases hl; exact h1
  | 1, _, _, hf, hl => by cases hf; cases hl; exact h2
  | _ + 2, _, _, hf, _ => by cases hf
theorem three_get {α β : Type} {a b x : α} {c d y : β} {R : α → β → Prop} (h1 : R a c) (h2 : R b d) (h3 : R x y) : ∀ (i : Nat) (f : α) (l : β), [a, b, x][i]? = some f → [c, d, y][i]? = some l → R f l
  | 0, _, _, hf, hl => by cases hf; cases hl; exact h1
  | 1, _, _, hf, hl => by cases hf; cases hl; exact h2
  | 2, _, _, hf, hl => by cases hf; cases hl; exact h3
  | _ + 3, _, _, hf, _ => by cases hf
/-- What is asked of a part of a union. -/
abbrev UnOk (w0 : World) (A : List Ck) (v : Value) (L : List Pp) (f : Fu) (l : List Pp) : Prop := l.length ≤ 549755813888 ∧ SmL l ∧ (f.val = v ∧ l = L ∨ TvC Tryz.prog w0 (.star A) f.val l ∨ f.val = .nilFunc ∧ l = [])
theorem md_un {T : Nat → Ck} {B i : Nat} {ss : List Stp} {o : Stp} {k b : Nat} {cap : List Value} {D A : List Ck} {ws : List Pb} {wa ua la na : Option Addr} {wc uc lc nc : Nat} {out ot on sn : List KV} {x y : Fu} {lx ly : List KV}
    (h : MdOk w0 T B ss ⟨i, k, cap, D, ws, wa, wc, la, lc, out⟩) (ho : ss[i]? = some o) (hx : UnOk w0 A (.func (.func k) #[] cap.toArray) (out.map KV.p) x (lx.map KV.p)) (hy : UnOk w0 A (.func (.func k) #[] cap.toArray) (out.map KV.p) y (ly.map KV.p))
    (hxr : RiL (lx.map KV.p)) (hyr : RiL (ly.map KV.p)) (hxz : SzL (lx.map KV.p)) (hyz : SzL (ly.map KV.p)) (hl : lx.length + ly.length ≤ out.length + ot.length) (hol : ot.length ≤ o.ls.length)
    (hM : Mrg (ly ++ lx) sn) (hon : on.map KV.p = (lastsE sn).map KV.p) : MdOk w0 T B ss ⟨i + 1, 63, [.pointer (some ⟨b, 0, none⟩)], unK b ua uc [x, y] A ++ D, ws, wa, wc, na, nc, on⟩ := by
  have e := un_pair hxr hyr hM hon
  have hso := sumS_get ho
  have hi := (List.getElem?_eq_some_iff.1 ho).1
  refine ⟨?_, (map_says hM hon).1, ?_, ?_, ?_, hi⟩
  · have := rt_union (b := b) (a := ua) (c := uc) (fs := [x, y]) (ls := [lx.map KV.p, ly.map KV.p]) h.rt rfl (by simp) (two_get (R := UnOk w0 A (.func (.func k) #[] cap.toArray) (out.map KV.p)) hx hy)
    rw [e] at this
    exact this
  · show SzL (on.map KV.p)
    rw [← e]
    refine un_sz fun l hl => ?_
    simp only [List.mem_cons, List.not_mem_nil, or_false] at hl
    rcases hl with rfl | rfl
    · exact hxz
    · exact hyz
  · have h1 := un_len [lx.map KV.p, ly.map KV.p]
    have h2 := h.ln
    rw [e] at h1
    simp only [tot, List.map_cons, List.map_nil, List.sum_cons, List.sum_nil, List.length_map] at h1
    have h3 := sumG_len o.ls
    show on.length ≤ _
    rw [hso]
    simp only [szS] at *
    omega
  · have := h.wl
    show ws.length ≤ i + 1
    simp only at this
    omega
set_option maxHeartbeats 8000000 in
theorem made_s {W : Nat} {T : Nat → Ck} {B : Nat} {c : Nat} {a : Option Addr} {ss : List Stp} (q0 : MdI) (hq : MdOk w0 T B ss q0) (h0 : q0.i = 0) (hs : RSl w0 H a c ss) (hr : ∀ o ∈ ss, RStp w0 H o) (hB : B + sumS ss ≤ 2147483647) (hll : ss.length ≤ 2000000000000) :
    FnS Tryz.prog w0 (mdP W q0 H) 8 #[.pointer (some ⟨W, 0, none⟩), q0.v, .slice q0.la q0.out.length q0.lc, .slice a ss.length c] (fun v H' => ∃ q : MdI, v = .tuple #[q.v, .slice q.la q.out.length q.lc] ∧ MdOk w0 T B ss q ∧ H' = mdP W q H) := by
  refine fns_enter Tryz.func8 rfl rfl rfl ?_
  refine s_kn (Kn.sl (hs.ent (Ent.dropL [_, _, _, _, _, _]))) fun ⟨l1, l2⟩ => ?_
  simp only [maxLen] at l2
  refine sx ?_
  refine s_loop (fun q : MdI => [(0, .pointer (some ⟨W, 0, none⟩)), (1, q.v), (2, .slice q.la q.out.length q.lc), (3, .slice a ss.length c), (10, .int .i64 q.i)]) (fun q => mdP W q H) (fun q => MdOk w0 T B ss q) (fun q => ss.length - q.i) q0 hq ?_
  rintro ⟨i, k, cap, D, ws, wa, wc, la, lc, out⟩ ⟨hrt, hri, hsz, hln, hwl, hle⟩
  simp only [MdI.v, mdP] at hrt hri hsz hln hwl hle ⊢
  refine sx ?_
  refine s_lif rfl (fun t1 => ?_) (fun t1 => ?_)
  · obtain ⟨o, ho⟩ := get_lt ss i (by omega)
    have ro := hr o (List.mem_of_getElem? ho)
    have rA : ∀ (A : List Ck), RStp w0 (A ++ H) o := fun A => ro.ent (Ent.dropL A)
    have hsA : RSl w0 (mdP W ⟨i, k, cap, D, ws, wa, wc, la, lc, out⟩ H) a c ss := hs.ent (Ent.dropL [_, _, _, _, _, _])
    have hso := sumS_get ho
    have hsl := sumS_le ss (i + 1)
    have hsl1 : B + sumS (ss.take i) + szS o ≤ 2147483647 := by omega
    simp only [mdP] at hsA
    refine sx ?_
    refine s_yS rfl rfl rfl (y_nefn rfl) ?_
    refine sx ?_
    refine s_alloc fun b11 => ?_
    refine sx ?_
    have hMd : MdOk w0 T B ss ⟨i, k, cap, D, ws, wa, wc, la, lc, out⟩ := ⟨hrt, hri, hsz, hln, hwl, hle⟩
    have g1 := sumG_len o.ls
    have hsz0 : sumG o.ls ≤ szS o ∧ sumM (o.ms.map Mg.d) ≤ szS o ∧ o.r.lo.length ≤ szS o ∧ o.r.hi.length ≤ szS o := by simp only [szS]; omega
    refine s_call rfl (rmap_s (es := o.ls) (by omega) (rA [_, _, _, _, _, _, _]).l (rA [_, _, _, _, _, _, _]).le ro.zl) ?_
    rintro _ _ ⟨ma, mc, ot, so, rfl, hM, hot, rfl⟩
    refine ⟨chk_seq, ?_⟩
    obtain ⟨m1, m2⟩ := map_says hM hot
    have hol : ot.length ≤ o.ls.length := by
      have h1 := congrArg List.length hot
      rw [List.length_map, List.length_map] at h1
      have h2 := (lasts_sub so).length_le
      have h3 := hM.st.len
      omega
    have hosz : SzL (ot.map KV.p) := by
      intro p hp
      rw [hot] at hp
      obtain ⟨e, he, rfl⟩ := List.mem_map.1 hp
      exact sz_of (es := o.ls) (by omega) _ (List.mem_map_of_mem (hM.st.perm.mem_iff.2 ((lasts_sub so).subset he)))
    clear hM hot
    refine sx ?_
    refine s_if rfl (fun t2 => ?_) (fun t2 => ?_)
    · -- a union with others
      refine sx ?_
      refine s_call rfl (Of_s (es := ot) RSl.hd (fun e he => (REe.st he).tl) (by omega) hosz.sm) ?_
      rintro _ _ ⟨u1, ua, uc, o1, rfl, ho1, rfl⟩
      refine ⟨chk_seq, ?_⟩
      have hO : TvC Tryz.prog w0 (.star (ofL u1 ua uc o1)) (.func (.func 43) #[] #[.pointer (some ⟨u1, 0, none⟩)]) (ot.map KV.p) := by
        rw [← ho1]
        exact ⟨43, [.pointer (some ⟨u1, 0, none⟩)], rfl, inferInstance, of_tell (by rw [ho1]; exact hosz.sm)⟩
      have hx1 : UnOk w0 (ofL u1 ua uc o1) (.func (.func k) #[] cap.toArray) (out.map KV.p) ⟨some (k, cap)⟩ (out.map KV.p) := ⟨by rw [List.length_map]; omega, hsz.sm, .inl ⟨rfl, rfl⟩⟩
      have hx2 : UnOk w0 (ofL u1 ua uc o1) (.func (.func k) #[] cap.toArray) (out.map KV.p) ⟨some (43, [.pointer (some ⟨u1, 0, none⟩)])⟩ (ot.map KV.p) := ⟨by rw [List.length_map]; omega, hosz.sm, .inr (.inl hO)⟩
      have hun : ∀ (ls : List SE), ls = [⟨ma, mc, ot⟩, ⟨la, lc, out⟩] ∨ ls = [⟨la, lc, out⟩, ⟨ma, mc, ot⟩] → (∀ s ∈ ls, s = ⟨ma, mc, ot⟩ ∨ s = ⟨la, lc, out⟩) := by
        rintro ls (rfl | rfl) s hs
        · simpa using hs
        · simpa [or_comm] using hs
      refine sx ?_
      refine s_bsl [(⟨some (k, cap)⟩ : Fu), ⟨some (43, [.pointer (some ⟨u1, 0, none⟩)])⟩] rfl rfl fun b44 => ?_
      refine sx ?_
      refine s_if rfl (fun t3 => ?_) (fun t3 => ?_)
      · refine sx ?_
        refine s_bsl [(⟨some (43, [.pointer (some ⟨u1, 0, none⟩)])⟩ : Fu), ⟨some (k, cap)⟩] rfl rfl fun b51 => ?_
        refine sx ?_
        refine s_bsl [(⟨ma, mc, ot⟩ : SE), ⟨la, lc, out⟩] rfl rfl fun b54 => ?_
        refine s_call rfl (g13union_s (ls := [(⟨ma, mc, ot⟩ : SE), ⟨la, lc, out⟩]) ?_ (by simp) (fun s hs => ?_) (fun s hs e he => ?_)) ?_
        · refine ⟨RSl.hd, fun s hs => ?_⟩
          rcases hun _ (.inl rfl) s hs with rfl | rfl
          · exact ⟨by exact rsl, fun e he => (REe.st (H := []) he).ent (by exact ent)⟩
          · exact ⟨by exact rsl, fun e he => (REe.st (H := []) he).ent (by exact ent)⟩
        · rcases hun _ (.inl rfl) s hs with rfl | rfl
          · show ot.length ≤ _
            omega
          · show out.length ≤ _
            omega
        · rcases hun _ (.inl rfl) s hs with rfl | rfl
          · exact hosz.sm _ (List.mem_map_of_mem he)
          · exact hsz.sm _ (List.mem_map_of_mem he)
        rintro _ _ ⟨na, nc, on, sn, rfl, hMn, hon, rfl⟩
        refine ⟨chk_seq, ?_⟩
        refine sx ?_
        refine s_call rfl (union_s (fs := [(⟨some (43, [.pointer (some ⟨u1, 0, none⟩)])⟩ : Fu), ⟨some (k, cap)⟩]) (by exact rsl) (by simp)) ?_
        rintro _ _ ⟨b, va, vc, rfl, rfl⟩
        refine ⟨chk_seq, ?_⟩
        refine s_entL (ol 40 (some ⟨b51, 0, none⟩) 2 [(⟨some (43, [.pointer (some ⟨u1, 0, none⟩)])⟩ : Fu), ⟨some (k, cap)⟩] :: unL b va vc [(⟨some (43, [.pointer (some ⟨u1, 0, none⟩)])⟩ : Fu), ⟨some (k, cap)⟩] ++ (ol 51 na nc on :: stars oKVs on :: ofG u1 ua uc o1 :: .hb W 34 [vnl, vnl, .slice wa ws.length wc, vnl, .int .i64 0] :: ol 53 wa wc ws :: stars exL ws :: .star D :: H)) (by exact ent) ?_
        refine sx ?_
        refine s_set1 (i := 0) (xs := [(⟨some (43, [.pointer (some ⟨u1, 0, none⟩)])⟩ : Fu), ⟨some (k, cap)⟩]) (y := (⟨none⟩ : Fu)) rfl rfl (by exact at_) rfl (by simp) ?_
        refine sx ?_
        refine s_set1 (i := 1) (xs := [(⟨none⟩ : Fu), ⟨some (k, cap)⟩]) (y := (⟨none⟩ : Fu)) rfl rfl (by exact at_) rfl (by simp) ?_
        refine sx ?_
        refine s_again ⟨i + 1, 63, [.pointer (some ⟨b, 0, none⟩)], unK b va vc [⟨some (43, [.pointer (some ⟨u1, 0, none⟩)])⟩, ⟨some (k, cap)⟩] (ofL u1 ua uc o1) ++ D, ws, wa, wc, na, nc, on⟩ (md_un hMd ho (lx := ot) (ly := out) hx2 hx1 m1 hri hosz hsz (by omega) hol (by simpa using hMn) hon) (by simp only; omega) (he := ?_)
        simp only
        refine Ent.cons (by exact rm) (Ent.cons (by exact rm) (Ent.cons (by exact rm) ?_))
        refine Ent.star (L := unK b va vc [⟨some (43, [.pointer (some ⟨u1, 0, none⟩)])⟩, ⟨some (k, cap)⟩] (ofL u1 ua uc o1) ++ D) ?_
        refine Ent.cons (by exact rm) (Ent.cons (by exact rm) ?_)
        refine Ent.trans (H' := ofG u1 ua uc o1 :: .star D :: ol 51 na nc on :: stars oKVs on :: H) (by exact entq) ?_
        refine Ent.open (Ent.head (Ent.head (Ent.head ?_)))
        exact Ent.open Ent.refl
      · refine sx ?_
        refine s_bsl [(⟨la, lc, out⟩ : SE), ⟨ma, mc, ot⟩] rfl rfl fun b54 => ?_
        refine s_call rfl (g13union_s (ls := [(⟨la, lc, out⟩ : SE), ⟨ma, mc, ot⟩]) ?_ (by simp) (fun s hs => ?_) (fun s hs e he => ?_)) ?_
        · refine ⟨RSl.hd, fun s hs => ?_⟩
          rcases hun _ (.inr rfl) s hs with rfl | rfl
          · exact ⟨by exact rsl, fun e he => (REe.st (H := []) he).ent (by exact ent)⟩
          · exact ⟨by exact rsl, fun e he => (REe.st (H := []) he).ent (by exact ent)⟩
        · rcases hun _ (.inr rfl) s hs with rfl | rfl
          · show ot.length ≤ _
            omega
          · show out.length ≤ _
            omega
        · rcases hun _ (.inr rfl) s hs with rfl | rfl
          · exact hosz.sm _ (List.mem_map_of_mem he)
          · exact hsz.sm _ (List.mem_map_of_mem he)
        rintro _ _ ⟨na, nc, on, sn, rfl, hMn, hon, rfl⟩
        refine ⟨chk_seq, ?_⟩
        refine sx ?_
        refine s_call rfl (union_s (fs := [(⟨some (k, cap)⟩ : Fu), ⟨some (43, [.pointer (some ⟨u1, 0, none⟩)])⟩]) (by exact rsl) (by simp)) ?_
        rintro _ _ ⟨b, va, vc, rfl, rfl⟩
        refine ⟨chk_seq, ?_⟩
        refine s_entL (ol 40 (some ⟨b44, 0, none⟩) 2 [(⟨some (k, cap)⟩ : Fu), ⟨some (43, [.pointer (some ⟨u1, 0, none⟩)])⟩] :: unL b va vc [(⟨some (k, cap)⟩ : Fu), ⟨some (43, [.pointer (some ⟨u1, 0, none⟩)])⟩] ++ (ol 51 na nc on :: stars oKVs on :: ofG u1 ua uc o1 :: .hb W 34 [vnl, vnl, .slice wa ws.length wc, vnl, .int .i64 0] :: ol 53 wa wc ws :: stars exL ws :: .star D :: H)) (by exact ent) ?_
        refine sx ?_
        refine s_set1 (i := 0) (xs := [(⟨some (k, cap)⟩ : Fu), ⟨some (43, [.pointer (some ⟨u1, 0, none⟩)])⟩]) (y := (⟨none⟩ : Fu)) rfl rfl (by exact at_) rfl (by simp) ?_
        refine sx ?_
        refine s_set1 (i := 1) (xs := [(⟨none⟩ : Fu), ⟨some (43, [.pointer (some ⟨u1, 0, none⟩)])⟩]) (y := (⟨none⟩ : Fu)) rfl rfl (by exact at_) rfl (by simp) ?_
        refine sx ?_
        refine s_again ⟨i + 1, 63, [.pointer (some ⟨b, 0, none⟩)], unK b va vc [⟨some (k, cap)⟩, ⟨some (43, [.pointer (some ⟨u1, 0, none⟩)])⟩] (ofL u1 ua uc o1) ++ D, ws, wa, wc, na, nc, on⟩ (md_un hMd ho (lx := out) (ly := ot) hx1 hx2 hri m1 hsz hosz (by omega) hol (by simpa using hMn) hon) (by simp only; omega) (he := ?_)
        simp only
        refine Ent.cons (by exact rm) (Ent.cons (by exact rm) (Ent.cons (by exact rm) ?_))
        refine Ent.star (L := unK b va vc [⟨some (k, cap)⟩, ⟨some (43, [.pointer (some ⟨u1, 0, none⟩)])⟩] (ofL u1 ua uc o1) ++ D) ?_
        refine Ent.cons (by exact rm) (Ent.cons (by exact rm) ?_)
        refine Ent.trans (H' := ofG u1 ua uc o1 :: .star D :: ol 51 na nc on :: stars oKVs on :: H) (by exact entq) ?_
        refine Ent.open (Ent.head (Ent.head (Ent.head ?_)))
        exact Ent.open Ent.refl
    refine sx ?_
    refine s_if rfl (fun t3 => ?_) (fun t3 => ?_)
    · -- with messages
      have hZ : ∀ m ∈ o.ms, Zl m := fun m hm => by
        have h1 := sumM_memG (List.mem_map_of_mem (f := Mg.d) hm)
        simp only [lenM] at h1
        show m.lo.length ≤ _ ∧ m.hi.length ≤ _ ∧ m.v.length ≤ _
        omega
      have hml := sumM_len (o.ms.map Mg.d)
      rw [List.length_map] at hml
      refine sx ?_
      refine s_call rfl (lentM_s (ms := o.ms) (rA [_, _, _, _, _, _, _, _, _]).m (by omega) hZ) ?_
      rintro _ _ ⟨a1, c1, fs, rfl, hfs, rfl⟩
      refine ⟨chk_seq, ?_⟩
      have hfl : fs.length = o.ms.length := by simpa using congrArg List.length hfs
      obtain ⟨hzf, _⟩ := mz_d hfs ro.zm
      have hlf : RMs w0 (.star (lMs a1 c1 fs) :: ol 51 ma mc ot :: stars oKVs ot :: .hb b11 74 (Cel.f o) :: mdP W ⟨i, k, cap, D, ws, wa, wc, la, lc, out⟩ H) a1 c1 fs := by
        refine RMs.ent (H' := ol 71 a1 c1 (fs ++ [mg77]) :: stars lM fs :: ol 51 ma mc ot :: stars oKVs ot :: .hb b11 74 (Cel.f o) :: mdP W ⟨i, k, cap, D, ws, wa, wc, la, lc, out⟩ H) ⟨?_, fun m hm => (lM_st hm).tl⟩ (Ent.open Ent.refl)
        have := (RSl.hd (w0 := w0) (E := 71) (a := a1) (c := c1) (xs := fs ++ [mg77]) (H := stars lM fs :: ol 51 ma mc ot :: stars oKVs ot :: .hb b11 74 (Cel.f o) :: mdP W ⟨i, k, cap, D, ws, wa, wc, la, lc, out⟩ H)).take (k := fs.length) (by simp)
        rwa [List.take_left' rfl] at this
      simp only [mdP] at hlf
      refine sx ?_
      refine s_call rfl (with_s (rt_one hrt) hlf (by omega) (fun m hm => by have := hzf m hm; omega)) ?_
      rintro _ _ ⟨b2, b5, pa, pc, ls, rfl, hls, rfl⟩
      refine ⟨chk_seq, ?_⟩
      clear hlf
      have hld : ls.map Mg.d = o.ms.map Mg.d := hls.trans hfs
      obtain ⟨hzl, hll2⟩ := mz_d hld ro.zm
      refine s_entL (.star (lMs a1 c1 fs) :: .star (wiL b2 b5 (.func (.func k) #[] cap.toArray) pa pc ls) :: .hb b11 74 (Cel.f o) :: mdP W ⟨i, k, cap, D, ws, wa, wc, la, lc, out⟩ H) (Ent.cons (by exact rm) (Ent.star (L := wiL b2 b5 (.func (.func k) #[] cap.toArray) pa pc ls) (Ent.cons (by exact rm) (Ent.cons (by exact rm) (Ent.cons (by exact rm) (Ent.cons (by exact rm) (Ent.tl (Ent.tl Ent.refl)))))))) ?_
      simp only [mdP]
      refine sx ?_
      refine s_call rfl (g13with_s (es := out) (ms := o.ms) (by exact rsl) (fun e he => (REe.st (H := []) he).ent (by exact ent)) (rA [_, _, _, _, _, _, _, _, _]).m (by omega) ro.zm (fun e he => hsz.sm _ (List.mem_map_of_mem he))) ?_
      rintro _ _ ⟨na, nc, on, rfl, hap, hnl, rfl⟩
      refine ⟨chk_seq, ?_⟩
      have hwi := wi_app hri (fun k => getL_map out k) hap
      refine s_entL (.star (lMs a1 c1 fs) :: ol 51 na nc on :: stars oKVs on :: .star (wiL b2 b5 (.func (.func k) #[] cap.toArray) pa pc ls) :: .hb b11 74 (Cel.f o) :: .hb W 34 [vnl, vnl, .slice wa ws.length wc, vnl, .int .i64 0] :: ol 53 wa wc ws :: stars exL ws :: .star D :: H) (by exact entq) ?_
      refine sx ?_
      refine s_call rfl (keptM_s (ms := o.ms) (rA [_, _, _, _, _, _, _, _]).m hfs) ?_
      rintro _ _ ⟨rfl, rfl⟩
      refine ⟨chk_seq, ?_⟩
      refine sx ?_
      have hrt2 := rt_with (b2 := b2) (b5 := b5) (a := pa) (c := pc) (ms := ls) hrt hsz.sm (by omega) hzl
      rw [hld, hwi] at hrt2
      refine s_again ⟨i + 1, 44, [.pointer (some ⟨b5, 0, none⟩), .pointer (some ⟨b2, 0, none⟩)], wiL b2 b5 (.func (.func k) #[] cap.toArray) pa pc ls ++ D, ws, wa, wc, na, nc, on⟩ ⟨hrt2, ?_, ?_, ?_, by show ws.length ≤ i + 1; omega, by show i + 1 ≤ _; omega⟩ (by simp only; omega) (he := ?_)
      · show RiL (on.map KV.p)
        rw [← hwi]
        exact wi_ri hri
      · show SzL (on.map KV.p)
        rw [← hwi]
        exact wi_sz hsz (by omega)
      · have h1 := wi_len (ms := o.ms.map Mg.d) (L := out.map KV.p)
        rw [hwi] at h1
        simp only [List.length_map] at h1
        show on.length ≤ _
        rw [hso]
        omega
      · simp only
        refine Ent.cons (by exact rm) (Ent.cons (by exact rm) (Ent.cons (by exact rm) ?_))
        refine Ent.star (L := wiL b2 b5 (.func (.func k) #[] cap.toArray) pa pc ls ++ D) ?_
        refine Ent.trans (H' := .star (wiL b2 b5 (.func (.func k) #[] cap.toArray) pa pc ls) :: .star D :: ol 51 na nc on :: stars oKVs on :: H) (by exact entq) ?_
        refine Ent.open (Ent.head (Ent.head (Ent.head (Ent.head ?_))))
        exact Ent.open Ent.refl
    refine sx ?_
    refine s_if rfl (fun t4 => ?_) (fun t4 => ?_)
    · refine sx ?_
      refine s_rw (t := 85) (v' := .pointer (some ((⟨b11, 0, none⟩ : Addr).add 3))) rfl rfl ?_
      refine sx ?_
      refine s_call rfl (lent_s (xs := o.r.lo) (rA [_, _, _, _, _, _, _, _, _]).r.lo (by omega)) ?_
      rintro _ _ ⟨a1, c1, rfl, rfl⟩
      refine ⟨chk_seq, ?_⟩
      refine sx ?_
      refine s_rw (t := 89) (v' := .pointer (some ((⟨b11, 0, none⟩ : Addr).add 4))) rfl rfl ?_
      refine sx ?_
      refine s_call rfl (lent_s (xs := o.r.hi) (rA [_, _, _, _, _, _, _, _, _, _]).r.hi (by omega)) ?_
      rintro _ _ ⟨a2, c2, rfl, rfl⟩
      refine ⟨chk_seq, ?_⟩
      refine sx ?_
      refine s_rw (t := 96) (v' := .pointer (some ((⟨b11, 0, none⟩ : Addr).add 5))) rfl rfl ?_
      refine sx ?_
      refine s_rw (t := 98) (v' := .agg (Rg.cells ⟨a1, c1, o.r.lo, a2, c2, o.r.hi, o.r.all⟩).toArray) rfl rfl ?_
      refine s_call rfl (gwithin_s (rt_one hrt) (r := ⟨a1, c1, o.r.lo, a2, c2, o.r.hi, o.r.all⟩) ⟨lm_by.tl, lm_by⟩ (by show o.r.lo.length ≤ _; omega) (by show o.r.hi.length ≤ _; omega)) ?_
      rintro _ _ ⟨b2, b3, qr, rfl, hqr, rfl⟩
      refine ⟨chk_seq, ?_⟩
      have hqr : qr.d = o.r.d := hqr
      refine s_entL (ob a1 c1 (lm o.r.lo) :: ob a2 c2 (lm o.r.hi) :: .star (wnL b2 b3 (.func (.func k) #[] cap.toArray) qr) :: .hb b11 74 (Cel.f o) :: mdP W ⟨i, k, cap, D, ws, wa, wc, la, lc, out⟩ H) (Ent.cons (by exact rm) (Ent.cons (by exact rm) (Ent.star (L := wnL b2 b3 (.func (.func k) #[] cap.toArray) qr) (Ent.cons (by exact rm) (Ent.cons (by exact rm) (Ent.cons (by exact rm) (Ent.tl (Ent.tl Ent.refl)))))))) ?_
      simp only [mdP]
      refine sx ?_
      refine s_rw (t := 102) (v' := .agg o.r.cells.toArray) rfl rfl ?_
      refine s_call rfl (g13within_s (es := out) (r := o.r) (by exact rsl) (fun e he => (REe.st (H := []) he).ent (by exact ent)) (rA [_, _, _, _, _, _, _, _, _, _]).r (by omega) hsz.sm) ?_
      rintro _ _ ⟨na, nc, on, rfl, hon, rfl⟩
      refine ⟨chk_seq, ?_⟩
      have hin := in_flt (r := o.r.d) hri
      rw [← hin] at hon
      refine s_entL (ob a1 c1 (lm o.r.lo) :: ob a2 c2 (lm o.r.hi) :: ol 51 na nc on :: stars oKVs on :: .star (wnL b2 b3 (.func (.func k) #[] cap.toArray) qr) :: .hb b11 74 (Cel.f o) :: .hb W 34 [vnl, vnl, .slice wa ws.length wc, vnl, .int .i64 0] :: ol 53 wa wc ws :: stars exL ws :: .star D :: H) (by exact entq) ?_
      refine sx ?_
      refine s_rw (t := 106) (v' := .pointer (some ((⟨b11, 0, none⟩ : Addr).add 3))) rfl rfl ?_
      refine sx ?_
      refine s_call rfl (kept_s (xs := o.r.lo) (rA [_, _, _, _, _, _, _, _, _]).r.lo) ?_
      rintro _ _ ⟨rfl, rfl⟩
      refine ⟨chk_seq, ?_⟩
      refine s_entL (ob a2 c2 (lm o.r.hi) :: ol 51 na nc on :: stars oKVs on :: .star (wnL b2 b3 (.func (.func k) #[] cap.toArray) qr) :: .hb b11 74 (Cel.f o) :: .hb W 34 [vnl, vnl, .slice wa ws.length wc, vnl, .int .i64 0] :: ol 53 wa wc ws :: stars exL ws :: .star D :: H) (Ent.tl Ent.refl) ?_
      refine sx ?_
      refine s_rw (t := 111) (v' := .pointer (some ((⟨b11, 0, none⟩ : Addr).add 4))) rfl rfl ?_
      refine sx ?_
      refine s_call rfl (kept_s (xs := o.r.hi) (rA [_, _, _, _, _, _, _, _]).r.hi) ?_
      rintro _ _ ⟨rfl, rfl⟩
      refine ⟨chk_seq, ?_⟩
      refine sx ?_
      have hrt2 := rt_within (b2 := b2) (b3 := b3) (r := qr) hrt hsz.sm
      rw [hqr, ← hon] at hrt2
      refine s_again ⟨i + 1, 48, [.pointer (some ⟨b3, 0, none⟩), .pointer (some ⟨b2, 0, none⟩)], wnL b2 b3 (.func (.func k) #[] cap.toArray) qr ++ D, ws, wa, wc, na, nc, on⟩ ⟨hrt2, ?_, ?_, ?_, by show ws.length ≤ i + 1; omega, by show i + 1 ≤ _; omega⟩ (by simp only; omega) (he := ?_)
      · show RiL (on.map KV.p)
        rw [hon]
        exact in_ri hri
      · show SzL (on.map KV.p)
        rw [hon]
        exact in_sz hsz
      · have h1 := (in_sub (r := o.r.d) (l := out.map KV.p)).length_le
        rw [← hon, List.length_map, List.length_map] at h1
        show on.length ≤ _
        rw [hso]
        omega
      · simp only
        refine Ent.cons (by exact rm) (Ent.cons (by exact rm) (Ent.cons (by exact rm) ?_))
        refine Ent.star (L := wnL b2 b3 (.func (.func k) #[] cap.toArray) qr ++ D) ?_
        refine Ent.trans (H' := .star (wnL b2 b3 (.func (.func k) #[] cap.toArray) qr) :: .star D :: ol 51 na nc on :: stars oKVs on :: H) (by exact entq) ?_
        refine Ent.open (Ent.head (Ent.head (Ent.head ?_)))
        exact Ent.open Ent.refl
    refine sx ?_
    refine s_if rfl (fun t5 => ?_) (fun t5 => ?_)
    · -- a check
      refine sx ?_
      refine s_alloc fun b18 => ?_
      refine sx ?_
      refine s_bsl [(⟨b18⟩ : Pb)] rfl rfl fun b21 => ?_
      refine s_app (xs := ws) (ys := [(⟨b18⟩ : Pb)]) ?_ (hby := by simp only [List.length_cons, List.length_nil]; omega)
      intro a4 c4
      refine sx ?_
      refine s_call rfl (check_s (rt_one hrt) (p := some ⟨b18, 0, none⟩)) ?_
      rintro _ _ ⟨b2, b3, rfl, rfl⟩
      refine ⟨chk_seq, ?_⟩
      refine sx ?_
      refine s_again ⟨i + 1, 36, [.pointer (some ⟨b3, 0, none⟩), .pointer (some ⟨b2, 0, none⟩)], ckL b2 b3 b18 (.func (.func k) #[] cap.toArray) ++ D, ws ++ [⟨b18⟩], a4, c4, la, lc, out⟩ ⟨rt_check (b2 := b2) (b3 := b3) (eb := b18) hrt hsz.sm hri, hri, hsz, by show out.length ≤ _; rw [hso]; omega, by show (ws ++ [(⟨b18⟩ : Pb)]).length ≤ i + 1; rw [List.length_append, List.length_singleton]; omega, by show i + 1 ≤ _; omega⟩ (by simp only; omega) (he := ?_)
      simp only
      refine Ent.cons (by exact rm) (Ent.cons (by exact rm) ?_)
      refine Ent.trans (H' := .hb b18 52 [.int .i64 1] :: stars exL ws :: .hb b2 40 [(.func (.func k) #[] cap.toArray)] :: .hb b3 53 [.pointer (some ⟨b18, 0, none⟩)] :: .star D :: ol 51 la lc out :: stars oKVs out :: H) (by exact ent) ?_
      refine Ent.trans (exK_in (c := exEc b18) false) ?_
      refine Ent.trans (stars_snoc (f := exL) (s := (⟨b18⟩ : Pb))) ?_
      refine Ent.head ?_
      refine Ent.star (L := ckL b2 b3 b18 (.func (.func k) #[] cap.toArray) ++ D) ?_
      refine Ent.head (Ent.head ?_)
      exact Ent.open Ent.refl
    refine sx ?_
    refine s_if rfl (fun t6 => ?_) (fun t6 => ?_)
    · refine sx ?_
      refine s_bsl [(⟨none⟩ : Fu), ⟨some (k, cap)⟩, ⟨none⟩] rfl rfl fun b30 => ?_
      refine s_call rfl (union_s (fs := [(⟨none⟩ : Fu), ⟨some (k, cap)⟩, ⟨none⟩]) (by exact rsl) (by simp)) ?_
      rintro _ _ ⟨b, va, vc, rfl, rfl⟩
      refine ⟨chk_seq, ?_⟩
      refine sx ?_
      have hrt2 := rt_union (b := b) (a := va) (c := vc) (A := []) (fs := [(⟨none⟩ : Fu), ⟨some (k, cap)⟩, ⟨none⟩]) (ls := [[], out.map KV.p, []]) hrt rfl (by simp) (three_get (R := UnOk w0 [] (.func (.func k) #[] cap.toArray) (out.map KV.p)) ⟨by simp, fun _ h => (by cases h), .inr (.inr ⟨rfl, rfl⟩)⟩ ⟨by rw [List.length_map]; omega, hsz.sm, .inl ⟨rfl, rfl⟩⟩ ⟨by simp, fun _ h => (by cases h), .inr (.inr ⟨rfl, rfl⟩)⟩)
      rw [un_nil3 hri] at hrt2
      refine s_again ⟨i + 1, 63, [.pointer (some ⟨b, 0, none⟩)], unK b va vc [⟨none⟩, ⟨some (k, cap)⟩, ⟨none⟩] [] ++ D, ws, wa, wc, la, lc, out⟩ ⟨hrt2, hri, hsz, by show out.length ≤ _; rw [hso]; omega, by show ws.length ≤ i + 1; omega, by show i + 1 ≤ _; omega⟩ (by simp only; omega) (he := ?_)
      simp only
      refine Ent.cons (by exact rm) (Ent.cons (by exact rm) (Ent.cons (by exact rm) ?_))
      refine Ent.star (L := unK b va vc [⟨none⟩, ⟨some (k, cap)⟩, ⟨none⟩] [] ++ D) ?_
      refine Ent.cons (by exact rm) (Ent.cons (by exact rm) ?_)
      refine Ent.trans (H' := .star D :: ol 51 la lc out :: stars oKVs out :: H) (by exact entq) ?_
      exact Ent.open Ent.refl
    · refine sx ?_
      refine s_again ⟨i + 1, k, cap, D, ws, wa, wc, la, lc, out⟩ ⟨hrt, hri, hsz, by show out.length ≤ _; rw [hso]; omega, by show ws.length ≤ i + 1; omega, by show i + 1 ≤ _; omega⟩ (by simp only; omega) (he := by exact entq)
  · obtain rfl : i = ss.length := by omega
    refine sx ?_
    exact s_ret2 rfl rfl rfl ⟨⟨ss.length, k, cap, D, ws, wa, wc, la, lc, out⟩, rfl, ⟨hrt, hri, hsz, hln, hwl, hle⟩, rfl⟩
end Go.Sx

