/- Part of a proof: a device, as it lies in memory, and what it amounts to. -/
import Derived.Test.YtjbjblhfccddkaaCO1
import Derived.Test.YtjbjblhfccddkaaCH1
import Derived.Test.YtjbjblhfccddkaaCKB
namespace Go.Sx
open Go Go.Proofs
set_option maxRecDepth 10000
/-! ### What it amounts to -/
/-- A block: what lasts, is it garbled, the waiting writes. -/
structure Ab where
  l : Bs
  bad : Bool
  ws : List Bs
/-- A device. -/
structure Ad where
  size : Nat
  n : Nat
  at_ : Int → Ab
  off : Bool
  armed : Int
  how : Int
  done : Bool
def zeros (n : Nat) : Bs := List.replicate n 0
def Ad.wat (A : Ad) (f : Int → Ab) : Ad := ⟨A.size, A.n, f, A.off, A.armed, A.how, A.done⟩
def Ad.set (A : Ad) (n : Int) (b : Ab) : Ad := { A with at_ := fun m => if m = n then b else A.at_ m }
/-- Why a block cannot be come by. -/
def Ad.err (A : Ad) (n : Int) : Int := if A.off = true then 12 else if n < 0 ∨ (A.n : Int) ≤ n then 11 else 0
def Ab.shows (b : Ab) : Bs := match b.ws.getLast? with | some x => x | none => b.l
/-- Why it cannot be read. -/
def Ad.rerr (A : Ad) (n : Int) : Int := if A.err n ≠ 0 then A.err n else if (A.at_ n).ws = [] ∧ (A.at_ n).bad = true then 14 else 0
/-- One change: is it done, what is answered, what is there then? -/
def Ad.cis (A : Ad) : Bool := if A.armed = 0 then true else if A.armed - 1 > 0 then true else A.done
def Ad.cer (A : Ad) : Int := if A.armed = 0 then 0 else if A.armed - 1 > 0 then 0 else if A.how = 1 then 13 else 12
def Ad.chg (A : Ad) : Ad := if A.armed = 0 then A else if A.armed - 1 > 0 then { A with armed := A.armed - 1 } else if A.how = 1 then { A with armed := A.armed - 1 } else { A with armed := A.armed - 1, off := true }
def Ad.wer (A : Ad) (n : Int) (k : Nat) : Int := if A.err n ≠ 0 then A.err n else if k ≠ A.size then 11 else A.cer
def Ad.write (A : Ad) (n : Int) (x : Bs) : Ad := if A.err n ≠ 0 ∨ x.length ≠ A.size then A else if A.cis = true then A.chg.set n { A.at_ n with ws := (A.at_ n).ws ++ [x] } else A.chg
def Ab.barr (b : Ab) : Ab := match b.ws.getLast? with | some x => ⟨x, false, []⟩ | none => b
def Ad.ber (A : Ad) : Int := if A.off = true then 12 else A.cer
def Ad.barrier (A : Ad) : Ad := if A.off = true then A else if A.cis = true then A.chg.wat (fun m => (A.chg.at_ m).barr) else A.chg
def Ad.aer (A : Ad) (n how : Int) : Int := if A.off = true then 12 else if n < 0 ∨ (how ≠ 0 ∧ how ≠ 1) then 1 else 0
def Ad.arm (A : Ad) (n how : Int) (done : Bool) : Ad := if A.aer n how ≠ 0 then A else { A with armed := n, how := how, done := done }
/-- These are the blocks of which writes wait. -/
structure Ad.Pend (A : Ad) (l : List Int) : Prop where
  up : l.Pairwise (· < ·)
  iff : ∀ m, m ∈ l ↔ (A.at_ m).ws ≠ []
def fated (size : Nat) (b : Ab) (f : Int) : Ab := if 1 ≤ f ∧ f ≤ b.ws.length then ⟨b.ws.getD (f - 1).toNat [], false, []⟩ else if f = b.ws.length + 1 then ⟨zeros size, true, []⟩ else ⟨b.l, b.bad, []⟩
def Ad.restart (A : Ad) (l : List Int) (fates : List Int) : Ad :=
  { A with at_ := fun m => if m ∈ l then fated A.size (A.at_ m) (fates.getD (l.idxOf m) 0) else A.at_ m, off := false, armed := 0 }
def Ad.fer (A : Ad) (n at_ : Int) : Int := if A.err n ≠ 0 then A.err n else if at_ < 0 ∨ (A.size : Int) ≤ at_ then 11 else A.rerr n
def xorAt (xs : Bs) (i : Nat) (x : UInt8) : Bs := xs.set i (xs.getD i 0 ^^^ x)
def Ab.flip (b : Ab) (i : Nat) (x : UInt8) : Ab := match b.ws.getLast? with | some y => { b with ws := b.ws.dropLast ++ [xorAt y i x] } | none => { b with l := xorAt b.l i x }
def Ad.flip (A : Ad) (n at_ : Int) (x : UInt8) : Ad := if A.fer n at_ ≠ 0 then A else A.set n ((A.at_ n).flip at_.toNat x)

/-! ### How it lies in memory -/
structure Bk where
  l : SB
  bad : Bool
  wa : Option Addr
  wc : Nat
  ws : List SB
def Bk.cells (b : Bk) : List Value := [b.l.val, .bool b.bad, .slice b.wa b.ws.length b.wc]
def Bk.ab (size : Nat) (b : Bk) : Ab := ⟨if b.l.a.isNone = true then zeros size else b.l.xs, b.bad, b.ws.map SB.xs⟩
/-- A block with its number and its place. -/
structure Be where
  n : Int
  k : Nat
  b : Bk
def oSB (s : SB) : List Ck := [ob s.a s.c s.xs]
def oBk (e : Be) : List Ck := [.hb e.k 82 e.b.cells, ol 29 e.b.wa e.b.wc e.b.ws, ob e.b.l.a e.b.l.c e.b.l.xs, stars oSB e.b.ws]
structure Cd where
  b : Nat
  m : Nat
  size : Nat
  n : Nat
  es : List Be
  off : Bool
  armed : Int
  how : Int
  done : Bool
  rs : Int
  ws : Int
def Cd.cells (lk : Int) (c : Cd) : List Value := [.int .i32 lk, .int .u32 0, .int .i64 c.size, .int .i64 c.n, .map (some c.m), .bool c.off, .int .i64 c.armed, .int .i64 c.how, .bool c.done, .int .u64 c.rs, .int .u64 c.ws]
def Be.kv (e : Be) : Int × Value := (e.n, .pointer (some ⟨e.k, 0, none⟩))
def Cd.kvs (c : Cd) : List (Int × Value) := c.es.map Be.kv
abbrev Cd.on (lk : Int) (c : Cd) (H : List Ck) : List Ck := .hb c.b 74 (c.cells lk) :: kmp c.m c.kvs :: stars oBk c.es :: H
def atE (size : Nat) (es : List Be) (n : Int) : Ab := match es.find? (fun e => e.n == n) with | some e => e.b.ab size | none => ⟨zeros size, false, []⟩
def Cd.ad (c : Cd) : Ad := ⟨c.size, c.n, atE c.size c.es, c.off, c.armed, c.how, c.done⟩
/-- What is true of a block. -/
structure Bk.Ok (size N : Nat) (b : Bk) : Prop where
  few : b.ws.length ≤ N
  nil : b.l.a = none → b.l.xs = [] ∧ b.l.c = 0
  len : b.l.a ≠ none → b.l.xs.length = size
  wlen : ∀ s ∈ b.ws, s.xs.length = size
/-- What is true of a device. -/
structure Cd.Ok (N : Nat) (c : Cd) : Prop where
  nodup : (c.es.map Be.n).Nodup
  dom : ∀ e ∈ c.es, 0 ≤ e.n ∧ e.n < c.n
  bk : ∀ e ∈ c.es, e.b.Ok c.size N
  arm : 0 ≤ c.armed ∧ c.armed ≤ 9223372036854775807
  how : I64 c.how
  sz : 512 ≤ c.size ∧ c.size ≤ 4096
  nn : c.n ≤ 65536
theorem Bk.Ok.mono {size N M : Nat} {b : Bk} (h : b.Ok size N) (hm : N ≤ M) : b.Ok size M := ⟨Nat.le_trans h.few hm, h.nil, h.len, h.wlen⟩
theorem Cd.Ok.mono {N M : Nat} {c : Cd} (h : c.Ok N) (hm : N ≤ M) : c.Ok M := ⟨h.nodup, h.dom, fun e he => (h.bk e he).mono hm, h.arm, h.how, h.sz, h.nn⟩
theorem find_be : ∀ {es : List Be} {i : Nat} {e : Be}, (es.map Be.n).Nodup → es[i]? = some e → es.find? (fun q => q.n == e.n) = some e
  | [], _, _, _, h => by simp at h
  | q :: es, 0, e, _, h => by
    simp only [List.getElem?_cons_zero, Option.some.injEq] at h
    subst h; simp
  | q :: es, i + 1, e, hn, h => by
    simp only [List.map_cons, List.nodup_cons] at hn
    have hm : e ∈ es := List.mem_of_getElem? (by simpa using h)
    have hne : (q.n == e.n) = false := by
      simp only [beq_eq_false_iff_ne, ne_eq]
      intro h1
      exact hn.1 (h1 ▸ List.mem_map_of_mem hm)
    rw [List.find?_cons, hne]
    exact find_be hn.2 (by simpa using h)
theorem aget_kvs : ∀ (es : List Be) (n : Int), aget (es.map Be.kv) n = (es.find? (fun q => q.n == n)).map fun e => .pointer (some ⟨e.k, 0, none⟩)
  | [], n => rfl
  | e :: es, n => by
    have ih := aget_kvs es n
    simp only [aget, List.map_cons, List.find?_cons] at *
    by_cases h : e.n = n
    · simp [Be.kv, h]
    · have h1 : ((Be.kv e).1 == n) = false := by simp [Be.kv, h]
      have h2 : (e.n == n) = false := by simp [h]
      rw [h1, h2]
      exact ih
theorem aput_kvs {es : List Be} {n : Int} {k : Nat} {b : Bk} (h : es.find? (fun q => q.n == n) = none) : aput (es.map Be.kv) n (.pointer (some ⟨k, 0, none⟩)) = (es ++ [(⟨n, k, b⟩ : Be)]).map Be.kv := by
  have : (es.map Be.kv).any (fun p => p.1 == n) = false := by
    rw [List.any_map, List.any_eq_false]
    intro e he
    have := List.find?_eq_none.1 h e he
    simpa [Be.kv] using this
  simp [aput, this, Be.kv]
theorem atE_of {size : Nat} {es : List Be} {i : Nat} {e : Be} (hn : (es.map Be.n).Nodup) (h : es[i]? = some e) : atE size es e.n = e.b.ab size := by simp only [atE, find_be hn h]
theorem atE_set {size : Nat} {es : List Be} {i : Nat} {e e' : Be} (hn : (es.map Be.n).Nodup) (h : es[i]? = some e) (hk : e'.n = e.n) : atE size (es.set i e') = fun m => if m = e.n then e'.b.ab size else atE size es m := by
  funext m
  have hl := (List.getElem?_eq_some_iff.1 h).1
  have hn' : ((es.set i e').map Be.n) = es.map Be.n := by
    rw [List.map_set, hk]
    apply List.ext_getElem?
    intro j
    rw [List.getElem?_set]
    split
    · rename_i hj
      subst hj
      have h2 := (List.getElem?_eq_some_iff.1 h).2
      simp [hl, h2]
    · rfl
  by_cases hm : m = e.n
  · subst hm
    rw [if_pos rfl, ← hk]
    exact atE_of (i := i) (by rw [hn']; exact hn) (by simp [hl])
  · rw [if_neg hm]
    simp only [atE]
    have : (es.set i e').find? (fun q => q.n == m) = es.find? (fun q => q.n == m) := by
      clear hn hn' hl
      induction es generalizing i with
      | nil => rfl
      | cons q es ih =>
        cases i with
        | zero =>
          simp only [List.getElem?_cons_zero, Option.some.injEq] at h
          subst h
          simp only [List.set_cons_zero, List.find?_cons]
          have h1 : (e'.n == m) = false := by rw [hk]; simp; exact fun e1 => hm e1.symm
          have h2 : (q.n == m) = false := by simp; exact fun e1 => hm e1.symm
          rw [h1, h2]
        | succ i =>
          simp only [List.set_cons_succ, List.find?_cons]
          rw [ih (by simpa using h)]
    rw [this]
theorem kvs_set {es : List Be} {i : Nat} {e e' : Be} (h : es[i]? = some e) (hn : e'.n = e.n) (hk : e'.k = e.k) : (es.set i e').map Be.kv = es.map Be.kv := by
  rw [List.map_set]
  apply List.ext_getElem?
  intro j
  rw [List.getElem?_set]
  split
  · rename_i hj
    subst hj
    split
    · simp [h, Be.kv, hn, hk]
    · rename_i hl
      simp at hl
      simp [List.getElem?_eq_none hl]
  · rfl
/-- One block is turned. -/
theorem Cd.Ok.upd {N : Nat} {c : Cd} {i : Nat} {e : Be} {b : Bk} (hc : c.Ok N) (h : c.es[i]? = some e) (hb : b.Ok c.size N) :
    ({ c with es := c.es.set i { e with b := b } } : Cd).Ok N ∧ ({ c with es := c.es.set i { e with b := b } } : Cd).ad = c.ad.set e.n (b.ab c.size) ∧ ({ c with es := c.es.set i { e with b := b } } : Cd).kvs = c.kvs := by
  have hmem : ∀ q ∈ c.es.set i { e with b := b }, q ∈ c.es ∨ q = { e with b := b } := fun q hq => List.mem_or_eq_of_mem_set hq
  have he := List.mem_of_getElem? h
  refine ⟨⟨?_, ?_, ?_, hc.arm, hc.how, hc.sz, hc.nn⟩, ?_, kvs_set h rfl rfl⟩
  · have hk := congrArg (List.map Prod.fst) (kvs_set (e' := { e with b := b }) h rfl rfl)
    have e1 : ∀ L : List Be, (L.map Be.kv).map Prod.fst = L.map Be.n := fun L => by simp [Be.kv, List.map_map, Function.comp_def]
    rw [e1, e1] at hk
    show ((c.es.set i { e with b := b }).map Be.n).Nodup
    rw [hk]; exact hc.nodup
  · intro q hq
    rcases hmem q hq with h1 | rfl
    · exact hc.dom q h1
    · exact hc.dom e he
  · intro q hq
    rcases hmem q hq with h1 | rfl
    · exact hc.bk q h1
    · exact hb
  · simp only [Cd.ad, Ad.set]
    rw [atE_set (e' := { e with b := b }) hc.nodup h rfl]
end Go.Sx
