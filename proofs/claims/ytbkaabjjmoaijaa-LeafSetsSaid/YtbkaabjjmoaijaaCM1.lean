/- Part of a proof: what the elder walks showed, in words that name no world. -/
import Derived.Test.YtbkaabjjmoaijaaCKB
import Derived.Test.YtbkaabjjmoaijaaCL4
import Derived.Test.YtbkaabjjmoaijaaCL13
import Derived.Test.YtbkaabjjmoaijaaCL14
import Derived.Test.YtbkaabjjmoaijaaCL15
import Derived.Test.YtbkaabjjmoaijaaCL18
namespace Go.Sx
open Go Go.Proofs

variable {w0 : World} {H : List Ck}
/-- Bytes, entries of one's own. -/
@[reducible] def ob (a : Option Addr) (c : Nat) (xs : Bs) : Ck := ol 5 a c xs
@[reducible] def oe (a : Option Addr) (c : Nat) (es : List KV) : Ck := oE 47 5 a c es
theorem p_wt {es : List KV} {k : Nat} {e : KV} (h : es[k]? = some e) : 1 + e.k.length + e.v.length ≤ wt (es.map KV.p) := wt_get (map_get h)
abbrev I64 (x : Int) : Prop := -9223372036854775808 ≤ x ∧ x ≤ 9223372036854775807
section
variable {a a' : Option Addr} {c c' : Nat} {xs ys : Bs} {es fs : List KV}
theorem common_s (ha : RBy w0 H a c xs) (hb : RBy w0 H a' c' ys) : FnV Try.prog w0 H 74 #[.slice a xs.length c, .slice a' ys.length c'] (.int .i64 (common xs ys)) :=
  FnV.of fun w hs => common_go w _ _ _ _ _ _ (ha w hs) (hb w hs)
theorem compare_s (ha : RBy w0 H a c xs) (hb : RBy w0 H a' c' ys) : FnV Try.prog w0 H 69 #[.slice a xs.length c, .slice a' ys.length c'] (.int .i64 (cmp xs ys)) :=
  FnV.of fun w hs => compare_go w _ _ _ _ _ _ (ha w hs) (hb w hs)
theorem has_s {r : Rg} (h1 : RBy w0 H r.la r.lc r.lo) (h2 : RBy w0 H r.ha r.hc r.hi) (ha : RBy w0 H a c xs) : FnV Try.prog w0 H 57 #[.agg r.cells.toArray, .slice a xs.length c] (.bool (hasR r.lo r.hi r.all xs)) :=
  FnV.of fun w hs => has_go w r ⟨h1 w hs, h2 w hs⟩ _ _ _ (ha w hs)
theorem lcheck_s (he : REn w0 H a c es) (hS : Small (es.map KV.p)) {size : Int} (hz : I64 size) : FnV Try.prog w0 H 37 #[.int .i64 size, .slice a es.length c] (.int .i64 (chkL size (es.map KV.p))) :=
  FnV.of fun w hs => check_go w _ _ _ (he w hs) hS size hz
theorem lbytes_s (he : REn w0 H a c es) (hS : Small (es.map KV.p)) : FnV Try.prog w0 H 38 #[.slice a es.length c] (.int .i64 (bytesL (es.map KV.p))) :=
  FnV.of fun w hs => bytes_go w _ _ _ (he w hs) hS
theorem lmay_s (he : REn w0 H a c es) {size : Int} (h1 : 512 ≤ size) (h2 : size ≤ 4096) : FnV Try.prog w0 H 61 #[.int .i64 size, .slice a es.length c] (.int .i64 (mayL size (es.map KV.p))) :=
  FnV.of fun w hs => may_go w _ _ _ (he w hs) size h1 h2
theorem lsized_s {s : Int} : FnV Try.prog w0 H 48 #[.int .i64 s] (.bool (sizedL s)) := FnV.of' fun w _ => sized_go w s
theorem llong_s (he : REn w0 H a c es) (hS : Small (es.map KV.p)) {i : Nat} (hi : i < es.length) : FnV Try.prog w0 H 62 #[.slice a es.length c, .int .i64 i] (.int .i64 (longL (es.map KV.p) i)) :=
  FnV.of fun w hs => long_go w _ _ _ (he w hs) hS i hi
theorem lalike_s (he : REn w0 H a c es) {i : Nat} (hi : i < es.length) : FnV Try.prog w0 H 56 #[.slice a es.length c, .int .i64 i] (.int .i64 (common (prevK (es.map KV.p) i) (keyAt (es.map KV.p) i))) :=
  FnV.of fun w hs => alike_go w _ _ _ (he w hs) i hi
/-- What Encode gives. -/
def encB (size : Int) (ps : Ps) : Bs := if chkL size ps = 0 then encodeL ps else []
theorem lencode_s (he : REn w0 H a c es) (hS : Small (es.map KV.p)) {size : Int} (hz : I64 size) : FnS Try.prog w0 H 26 #[.int .i64 size, .slice a es.length c]
    (fun v H' => ∃ a c, v = .tuple #[.slice a (encB size (es.map KV.p)).length c, .int .i64 (chkL size (es.map KV.p))] ∧ H' = ob a c (encB size (es.map KV.p)) :: H) :=
  fun w hs => (encode_go w _ _ _ (he w hs) hS size hz).mono fun v w' ⟨a, c, bs, h1, h2, h3, h4⟩ => by
    have e : bs = encB size (es.map KV.p) := h4
    subst e
    exact ⟨_, ⟨a, c, h1, rfl⟩, OwB.sat h3 hs h2⟩
theorem rsized_s {s : Int} : FnV Try.prog w0 H 53 #[.int .i64 s] (.bool (sizedL s)) := FnV.of' fun w _ => rsized_go w s
theorem rcommon_s (ha : RBy w0 H a c xs) (hb : RBy w0 H a' c' ys) : FnV Try.prog w0 H 64 #[.slice a xs.length c, .slice a' ys.length c'] (.int .i64 (common xs ys)) :=
  FnV.of fun w hs => rcommon_go w _ _ _ _ _ _ (ha w hs) (hb w hs)
theorem rentries_s (he : REn w0 H a c es) {size : Int} (h1 : 512 ≤ size) (h2 : size ≤ 4096) : FnV Try.prog w0 H 63 #[.int .i64 size, .slice a es.length c] (.int .i64 (mayL size (es.map KV.p))) :=
  FnV.of fun w hs => rentries_go w _ _ _ (he w hs) size h1 h2
theorem rcheck_s (he : REn w0 H a c es) (hS : Small (es.map KV.p)) {size : Int} (hz : I64 size) : FnV Try.prog w0 H 41 #[.int .i64 size, .slice a es.length c] (.int .i64 (chkL size (es.map KV.p))) :=
  FnV.of fun w hs => rcheck_go w _ _ _ (he w hs) hS size hz
theorem rbytes_s (he : REn w0 H a c es) (hS : Small (es.map KV.p)) : FnV Try.prog w0 H 42 #[.slice a es.length c] (.int .i64 (bytesL (es.map KV.p))) :=
  FnV.of fun w hs => rbytes_go w _ _ _ (he w hs) hS
theorem rencode_s (he : REn w0 H a c es) (hS : Small (es.map KV.p)) {size : Int} (hz : I64 size) : FnS Try.prog w0 H 40 #[.int .i64 size, .slice a es.length c]
    (fun v H' => ∃ a c, v = .tuple #[.slice a (encB size (es.map KV.p)).length c, .int .i64 (chkL size (es.map KV.p))] ∧ H' = ob a c (encB size (es.map KV.p)) :: H) :=
  fun w hs => (rencode_go w _ _ _ (he w hs) hS size hz).mono fun v w' ⟨a, c, bs, h1, h2, h3, h4⟩ => by
    have e : bs = encB size (es.map KV.p) := h4
    subst e
    exact ⟨_, ⟨a, c, h1, rfl⟩, OwB.sat h3 hs h2⟩
theorem ldecode_s (hb : RBy w0 H a c xs) {size : Int} (hz : I64 size) : FnS Try.prog w0 H 21 #[.int .i64 size, .slice a xs.length c]
    (fun v H' => ∃ a c es, v = .tuple #[.slice a (es : List KV).length c, .int .i64 (decC size xs)] ∧ es.map KV.p = decR size xs ∧ H' = oe a c es :: H) :=
  fun w hs => (decode_go w _ _ _ (hb w hs) size hz).mono fun v w' ⟨a, c, es, h1, h2, h3, h4⟩ => ⟨_, ⟨a, c, es, h1, h4, rfl⟩, OwE.sat h3 hs h2⟩
theorem rdecode_s (hb : RBy w0 H a c xs) {size : Int} (hz : I64 size) : FnS Try.prog w0 H 22 #[.int .i64 size, .slice a xs.length c]
    (fun v H' => ∃ a c es, v = .tuple #[.slice a (es : List KV).length c, .int .i64 (decC size xs)] ∧ es.map KV.p = decR size xs ∧ H' = oe a c es :: H) :=
  fun w hs => (rdecode_go w _ _ _ (hb w hs) size hz).mono fun v w' ⟨a, c, es, h1, h2, h3, h4⟩ => ⟨_, ⟨a, c, es, h1, h4, rfl⟩, OwE.sat h3 hs h2⟩
theorem CopyPost.fns {k : FuncId} {args : Array Value} (h : ∀ w, Sat w0 H w → Fn Try.prog k args w (CopyPost w xs)) : FnS Try.prog w0 H k args (fun v H' => ∃ a c, v = .slice a xs.length c ∧ H' = ob a c xs :: H) :=
  fun w hs => (h w hs).mono fun _ _ ⟨a, c, h1, h2, h3⟩ => ⟨_, ⟨a, c, h1, rfl⟩, OwB.sat h3 hs h2⟩
theorem clone_s (ha : RBy w0 H a c xs) (hx : xs.length ≤ 140737488355328) : FnS Try.prog w0 H 73 #[.slice a xs.length c] (fun v H' => ∃ a c, v = .slice a xs.length c ∧ H' = ob a c xs :: H) :=
  CopyPost.fns fun w hs => clone_go w _ _ _ (ha w hs) hx
theorem marked_s (ha : RBy w0 H a c xs) (hx : xs.length + 2 ≤ 140737488355328) : FnS Try.prog w0 H 20 #[.slice a xs.length c] (fun v H' => ∃ a c, v = .slice a (xs ++ [167, 168]).length c ∧ H' = ob a c (xs ++ [167, 168]) :: H) :=
  CopyPost.fns fun w hs => marked_go w _ _ _ (ha w hs) hx
theorem lcopied_s {e : KV} (hk : RBy w0 H e.ka e.kc e.k) (hv : RBy w0 H e.va e.vc e.v) (hl : e.k.length + e.v.length ≤ 140737488355328) : FnS Try.prog w0 H 58 #[.agg e.cells.toArray]
    (fun v H' => ∃ e' : KV, v = .agg e'.cells.toArray ∧ e'.p = e.p ∧ H' = ob e'.ka e'.kc e'.k :: ob e'.va e'.vc e'.v :: H) :=
  fun w hs => (copied_go w e (hk w hs) (hv w hs) hl).mono fun v w' ⟨e', h1, h2, h3, h4⟩ => by
    refine ⟨_, ⟨e', h1, h2, rfl⟩, ?_⟩
    have hw : Sat w0 (Ck.star [ob e'.ka e'.kc e'.k, ob e'.va e'.vc e'.v] :: H) w' := by
      refine hs.new h3 (fun i => blk e'.ka = some i ∨ blk e'.va = some i) (fun i hi => hi.elim (OwB.bl h4.k) (OwB.bl h4.v)) ?_
      refine ⟨fun i => blk e'.ka = some i, fun i hi => .inl hi, ⟨by show Own _ _ _ _ _ _ _ _; simp only [flat_bs]; exact Own.mono h4.k (Nat.zero_le _), fun ad e => by rw [e]; rfl⟩, ?_⟩
      exact ⟨fun i => blk e'.va = some i, fun i hi => ⟨.inr hi, fun hj => h4.dj i hj hi⟩, ⟨by show Own _ _ _ _ _ _ _ _; simp only [flat_bs]; exact Own.mono h4.v (Nat.zero_le _), fun ad e => by rw [e]; rfl⟩, trivial⟩
    exact Sat.star.1 hw
theorem equal_s (ha : RBy w0 H a c xs) (hb : RBy w0 H a' c' ys) : FnV Try.prog w0 H 52 #[.slice a xs.length c, .slice a' ys.length c'] (.bool (decide (xs = ys))) :=
  FnV.of' fun w hs => equal_go w _ _ _ _ _ _ (ha w hs) (hb w hs)
theorem same_s (he : REn w0 H a c es) (hf : REn w0 H a' c' fs) : FnV Try.prog w0 H 23 #[.slice a es.length c, .slice a' fs.length c'] (.bool (decide (es.map KV.p = fs.map KV.p))) :=
  FnV.of fun w hs => same_go w _ _ _ _ _ _ (he w hs) (hf w hs)
theorem shown_s : FnV Try.prog w0 H 12 #[] (.bool true) := FnV.of fun w _ => shown_go w
theorem weight_s (he : REn w0 H a c es) (hz : ∀ e, e ∈ es → e.k.length ≤ 140737488351232 ∧ e.v.length ≤ 140737488351232) : FnV Try.prog w0 H 14 #[.slice a es.length c] (.int .i64 (wB 0 (es.map KV.p) : Nat)) :=
  FnV.of fun w hs => weight_go w _ _ _ (he w hs) hz
theorem pick_s {x : Int} (hx : I64 x) {n : Nat} (hn : 0 < n) : FnV Try.prog w0 H 27 #[.int .i64 x, .int .i64 n] (.int .i64 (pickL x n)) := FnV.of' fun w _ => pick_go w x hx n hn
theorem sizes_s {x : Int} (hx : I64 x) : FnV Try.prog w0 H 25 #[.int .i64 x] (.int .i64 (sizeL x)) := FnV.of' fun w _ => sizes_go w x hx
theorem mark_s {i : Nat} (hi : i ≤ 9223372036854775807) : FnV Try.prog w0 H 45 #[.int .i64 i] (bv (markL i)) := FnV.of' fun w _ => mark_go w i hi
theorem full_s (ha : RBy w0 H a c xs) {m : UInt8} : FnV Try.prog w0 H 46 #[.slice a xs.length c, bv m] (.bool (xs.all (· == m))) := FnV.of' fun w hs => full_go w _ _ _ (ha w hs) m
end
end Go.Sx
