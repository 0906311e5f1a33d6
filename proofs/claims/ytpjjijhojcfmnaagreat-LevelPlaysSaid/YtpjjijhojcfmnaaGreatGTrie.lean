/-
  A trie in memory: nodes by the bits that lead to them, each a block of its own; what each operation of it leaves. No condition.
  Contracts of package trie's functions over a trie in memory. No condition but that words are words.
  Contracts of Put, Get, Delete, Len over a trie in memory. No condition but that words are words, and that the count is no great number.
  Contracts of Between, Longest, Cover over a trie in memory: the longest prefix of an address within bounds. No condition but that words are words.
  The walk of the law TrieCovers, and of the example of package trie: for all inputs it returns true and leaves memory alone. No condition.
  The walk of the law TrieNested: for all inputs it returns true and leaves memory alone. No condition.
  A list of routes in order, against a table of them: what finding, taking out, putting in, and the longest, say of both. No condition.
-/
import Derived.Test.YtpjjijhojcfmnaaGreatGRef
import Derived.Test.YtpjjijhojcfmnaaGreatProg
import Derived.WalkSpells
import Derived.Deep.RegionHeld3
import Derived.Test.YtpjjijhojcfmnaaGreatGBase
namespace Go.Proofs.YtpjjijhojcfmnaaGreat
open Go.RowKit
set_option linter.unusedVariables false
set_option linter.unusedSimpArgs false

/-- c has i bits alone. -/
def Kok (c : Ad) (i : Nat) : Prop := c.ok ∧ c.cut i = c ∧ i ≤ 128
theorem Kok.of_cut {a : Ad} (ha : a.ok) {i : Nat} (hi : i ≤ 128) : Kok (a.cut i) i := ⟨Ad.cut_ok ha i, by rw [Ad.cut_cut ha i i hi hi, Nat.min_self], hi⟩
theorem Kok.root : Kok (0, 0) 0 := ⟨⟨by decide, by decide⟩, by decide, by decide⟩
theorem Kok.bit_out {c : Ad} {i : Nat} (h : Kok c i) {j : Nat} (hj : i ≤ j) (h128 : j < 128) : c.bit j = 0 := by
  have := Ad.bit_cut h.1 i j h.2.2 h128
  rw [h.2.1, if_neg (by omega)] at this; exact this
theorem Kok.zero {c : Ad} {i : Nat} (h : Kok c i) (hi : i < 128) : Kok c (i + 1) := by
  refine ⟨h.1, ?_, by omega⟩
  conv => lhs; rw [← h.2.1]
  rw [Ad.cut_cut h.1 i (i + 1) h.2.2 (by omega), Nat.min_eq_left (by omega), h.2.1]
theorem with_cut {c : Ad} {i : Nat} (h : Kok c i) (hi : i < 128) : (c.with i).cut i = c := by
  apply Ad.ext_bits (Ad.cut_ok (Ad.with_ok h.1 i) i) h.1
  intro j hj
  rw [Ad.bit_cut (Ad.with_ok h.1 i) i j h.2.2 hj, Ad.bit_with c i j hi hj]
  by_cases h1 : j < i
  · rw [if_pos h1, if_neg (by omega)]
  · rw [if_neg h1, h.bit_out (by omega) hj]
theorem Kok.one {c : Ad} {i : Nat} (h : Kok c i) (hi : i < 128) : Kok (c.with i) (i + 1) := by
  refine ⟨Ad.with_ok h.1 i, ?_, by omega⟩
  apply Ad.ext_bits (Ad.cut_ok (Ad.with_ok h.1 i) _) (Ad.with_ok h.1 i)
  intro j hj
  rw [Ad.bit_cut (Ad.with_ok h.1 i) (i + 1) j (by omega) hj, Ad.bit_with c i j hi hj]
  by_cases h1 : j < i + 1
  · rw [if_pos h1]
  · rw [if_neg h1, if_neg (by omega), h.bit_out (by omega) hj]
theorem with_ne {c : Ad} {i : Nat} (h : Kok c i) (hi : i < 128) : c.with i ≠ c := by
  intro e
  have h1 := Ad.bit_with c i i hi hi
  rw [e, h.bit_out (Nat.le_refl _) hi, if_pos rfl] at h1
  exact absurd h1 (by decide)
/-- The child that an address leads to. -/
def kid (c : Ad) (i bit : Nat) : Ad := if bit = 1 then c.with i else c
theorem kid_cut (a : Ad) (ha : a.ok) (i : Nat) (hi : i < 128) : a.cut (i + 1) = kid (a.cut i) i (a.bit i) := cut_next a ha i hi
theorem kid_ok {c : Ad} {i : Nat} (h : Kok c i) (hi : i < 128) (bit : Nat) : Kok (kid c i bit) (i + 1) := by unfold kid; split; exact h.one hi; exact h.zero hi
theorem kid_up {c : Ad} {i : Nat} (h : Kok c i) (hi : i < 128) (bit : Nat) : (kid c i bit).cut i = c := by unfold kid; split; exact with_cut h hi; exact h.2.1

def ptrV : Option Nat → Value
  | none => .pointer none
  | some b => .pointer (some ⟨b, 0, none⟩)
def nodeC (g b : Nat) (n : Int) (v : Option Int) (l r : Option Nat) : List Value := [.bool v.isSome, .int .i64 (v.getD 0), ptrV l, ptrV r] ++ if b = g then [.int .i64 n] else []

section
variable {w : World} {g : Nat} {F : Nat → Prop} {N : Ad → Nat → Option Nat} {m : Ad → Nat → Option Int} {n : Int}
def updN {α : Type} (f : Ad → Nat → Option α) (c : Ad) (i : Nat) (v : Option α) : Ad → Nat → Option α := fun c' i' => if c' = c ∧ i' = i then v else f c' i'
theorem updN_same {α : Type} (f : Ad → Nat → Option α) (c : Ad) (i : Nat) (v : Option α) : updN f c i v c i = v := if_pos ⟨rfl, rfl⟩
theorem updN_ne {α : Type} (f : Ad → Nat → Option α) {c c' : Ad} {i i' : Nat} (v : Option α) (h : ¬ (c' = c ∧ i' = i)) : updN f c i v c' i' = f c' i' := if_neg h

end

end Go.Proofs.YtpjjijhojcfmnaaGreat

namespace Go.Proofs.YtpjjijhojcfmnaaGreat
open Go.RowKit
set_option linter.unusedVariables false
set_option linter.unusedSimpArgs false
set_option maxRecDepth 100000
attribute [local go_sem high] eq_ad eq_pf eq_rt

def FindLoop (w : World) (p : Ad) (L : Nat) (N : Ad → Nat → Option Nat) (x i : Value) (wr : World) : Prop :=
  ∃ k : Nat, k ≤ L ∧ i = .int .i64 k ∧ x = ptrV (N (p.cut k) k) ∧ Blk wr w.heap.size 38 [.int .u64 (p.1 : Int), .int .u64 (p.2 : Int), .int .i64 (L : Int)] ∧ Below w.heap.size w wr

end Go.Proofs.YtpjjijhojcfmnaaGreat

namespace Go.Proofs.YtpjjijhojcfmnaaGreat
open Go.RowKit
set_option linter.unusedVariables false
set_option linter.unusedSimpArgs false
set_option maxRecDepth 100000

theorem Kok.of_right {p : Pf} (hp : p.1.ok) (hr : p.right) : Kok p.1 p.2.toNat := ⟨hp, hr.2.2, by have := hr.2.1; have := hr.1; omega⟩
def getV (m : Ad → Nat → Option Int) (p : Pf) : Option Int := if p.right then m p.1 p.2.toNat else none

section
variable {w w1 : World} {g q : Nat} {F F' : Nat → Prop} {N' : Ad → Nat → Option Nat} {m : Ad → Nat → Option Int} {n : Int} {c : Ad} {L : Nat} {o : Obj}
end
def GetPost (w : World) (v : Option Int) (e : Ending) (w' : World) : Prop := e = .returned (.tuple #[.int .i64 (v.getD 0), .bool v.isSome]) ∧ Below w.heap.size w w'
end Go.Proofs.YtpjjijhojcfmnaaGreat

namespace Go.Proofs.YtpjjijhojcfmnaaGreat
open Go.RowKit
set_option linter.unusedVariables false
set_option linter.unusedSimpArgs false
set_option maxRecDepth 100000
attribute [local go_sem high] eq_ad eq_pf eq_rt

theorem cell_set_ne (w : World) (a b : Addr) (v : Value) (h : a.block ≠ b.block) : (w.setCell b v).cell? a = w.cell? a := World.cell?_of_block (Below.heap_setCell _ _ _ _ h)
/-- Of the first k lengths the greatest, above low, that has a value. -/
def bestT (m : Ad → Nat → Option Int) (a : Ad) (low : Int) : Nat → Option (Nat × Int)
  | 0 => none
  | k + 1 => if low < (k : Int) then (match m (a.cut k) k with | some h => some (k, h) | none => bestT m a low k) else bestT m a low k
theorem bestT_lt {m : Ad → Nat → Option Int} {a : Ad} {low : Int} : ∀ {k i : Nat} {h : Int}, bestT m a low k = some (i, h) → i < k ∧ low < (i : Int) ∧ m (a.cut i) i = some h
  | 0, i, h, e => by simp [bestT] at e
  | k + 1, i, h, e => by
    unfold bestT at e
    by_cases h1 : low < (k : Int)
    · rw [if_pos h1] at e
      cases h2 : m (a.cut k) k with
      | some h' =>
        rw [h2] at e
        injection e with e
        injection e with e1 e2
        subst e1 e2
        exact ⟨by omega, h1, h2⟩
      | none => rw [h2] at e; have := bestT_lt e; exact ⟨by omega, this.2⟩
    · rw [if_neg h1] at e; have := bestT_lt e; exact ⟨by omega, this.2⟩
theorem bestT_none {m : Ad → Nat → Option Int} {a : Ad} {low : Int} {k : Nat} : ∀ {K : Nat}, k ≤ K → (∀ j, k ≤ j → j < K → m (a.cut j) j = none) → bestT m a low K = bestT m a low k
  | 0, hk, _ => by obtain rfl : k = 0 := by omega
                   rfl
  | K + 1, hk, h => by
    by_cases e : k = K + 1
    · rw [e]
    · rw [bestT, h K (by omega) (by omega)]
      simp only
      rw [bestT_none (show k ≤ K by omega) (fun j h1 h2 => h j h1 (by omega))]
      split <;> rfl
def btK (high : Int) : Nat := (min high 128 + 1).toNat
def btR (a : Ad) : Option (Nat × Int) → Rt
  | none => (((0, 0), 0), 0)
  | some (i, h) => ((a.cut i, (i : Int)), h)
/-- The pair that such a search hands back. -/
def rtPair (r : Rt) (b : Bool) : Value := .tuple #[.agg #[.int .u64 (r.1.1.1 : Int), .int .u64 (r.1.1.2 : Int), .int .i64 r.1.2, .int .i64 r.2], .bool b]
def BetPost (w : World) (a : Ad) (v : Option (Nat × Int)) (e : Ending) (w' : World) : Prop := e = .returned (rtPair (btR a v) v.isSome) ∧ Below w.heap.size w w'

def BetLoop (w : World) (p : Ad) (N : Ad → Nat → Option Nat) (m : Ad → Nat → Option Int) (low high : Int) (fo x i : Value) (wr : World) : Prop :=
  ∃ k : Nat, k ≤ 128 ∧ (k = 0 ∨ (k : Int) ≤ high + 1) ∧ i = .int .i64 k ∧ x = ptrV (N (p.cut k) k) ∧ fo = .bool (bestT m p low k).isSome ∧
    Blk wr w.heap.size 36 [.int .u64 (p.1 : Int), .int .u64 (p.2 : Int)] ∧ Blk wr (w.heap.size + 1) 77 [.int .u64 0, .int .u64 0, .int .i64 0, .int .i64 0] ∧
    Blk wr (w.heap.size + 2) 77 (rtEn (btR p (bestT m p low k))) ∧ Below w.heap.size w wr

/-- What Cover tells: nothing of what is no prefix. -/
def coverT (m : Ad → Nat → Option Int) (p : Pf) (low high : Int) : Option (Nat × Int) := if p.right then bestT m p.1 low (btK (min high p.2)) else none
/-- The same with the answer written out. -/
theorem BetPost.out {w w' : World} {a : Ad} {v : Option (Nat × Int)} {e : Ending} {r : Rt} {f : Bool} (h : BetPost w a v e w') (hr : btR a v = r) (hf : v.isSome = f) :
    e = .returned (.tuple #[.agg #[.int .u64 (r.1.1.1 : Int), .int .u64 (r.1.1.2 : Int), .int .i64 r.1.2, .int .i64 r.2], .bool f]) ∧ Below w.heap.size w w' := by
  subst hr hf; exact h
end Go.Proofs.YtpjjijhojcfmnaaGreat

namespace Go.Proofs.YtpjjijhojcfmnaaGreat
open Go.RowKit
set_option linter.unusedVariables false
set_option linter.unusedSimpArgs false
set_option maxRecDepth 100000
attribute [local go_sem high] eq_ad eq_pf eq_rt

def putM (m : Ad → Nat → Option Int) (p : Pf) (hop : Int) : Ad → Nat → Option Int := if p.right then updN m p.1 p.2.toNat (some hop) else m
def putC (m : Ad → Nat → Option Int) (p : Pf) (n : Int) : Int := if p.right then (if (m p.1 p.2.toNat).isSome then n else n + 1) else n
theorem putC_le (m : Ad → Nat → Option Int) (p : Pf) (n : Int) : n ≤ putC m p n ∧ putC m p n ≤ n + 1 := by unfold putC; split <;> (try split) <;> omega
theorem bestT_all {m : Ad → Nat → Option Int} {a : Ad} {low : Int} : ∀ {K : Nat}, bestT m a low K = none → ∀ k, k < K → low < (k : Int) → m (a.cut k) k = none
  | 0, _, k, hk, _ => by omega
  | K + 1, e, k, hk, hl => by
    unfold bestT at e
    by_cases h1 : low < (K : Int)
    · rw [if_pos h1] at e
      cases h2 : m (a.cut K) K with
      | some h => rw [h2] at e; cases e
      | none =>
        rw [h2] at e
        by_cases h3 : k = K
        · subst h3; exact h2
        · exact bestT_all e k (by omega) hl
    · rw [if_neg h1] at e; exact bestT_all e k (by omega) hl
theorem bestT_lower {m : Ad → Nat → Option Int} {a : Ad} {low mid : Int} (h : low ≤ mid) {x : Nat × Int} : ∀ {K : Nat}, bestT m a mid K = some x → bestT m a low K = some x
  | 0, e => by simp [bestT] at e
  | K + 1, e => by
    unfold bestT at e ⊢
    by_cases h1 : mid < (K : Int)
    · rw [if_pos h1] at e
      rw [if_pos (by omega)]
      cases h2 : m (a.cut K) K with
      | some h' => rw [h2] at e; exact e
      | none => rw [h2] at e; exact bestT_lower h e
    · rw [if_neg h1] at e
      have e' := bestT_lt e
      omega
theorem bestT_ext {m : Ad → Nat → Option Int} {a : Ad} {low : Int} {k : Nat} : ∀ {K : Nat}, k ≤ K → (∀ j, k ≤ j → j < K → low < (j : Int) → m (a.cut j) j = none) → bestT m a low K = bestT m a low k
  | 0, hk, _ => by obtain rfl : k = 0 := by omega
                   rfl
  | K + 1, hk, h => by
    by_cases e : k = K + 1
    · rw [e]
    · rw [bestT, bestT_ext (show k ≤ K by omega) (fun j h1 h2 h3 => h j h1 (by omega) h3)]
      split
      · rename_i h1; rw [h K (by omega) (by omega) h1]
      · rfl
theorem cover_split {m : Ad → Nat → Option Int} {p : Pf} {low mid high : Int} (h1 : low ≤ mid) (h2 : mid ≤ high) :
    (∃ x, coverT m p mid high = some x ∧ coverT m p low high = some x) ∨ (coverT m p mid high = none ∧ coverT m p low high = coverT m p low mid) := by
  unfold coverT
  by_cases hr : p.right
  · rw [if_pos hr, if_pos hr, if_pos hr]
    cases e : bestT m p.1 mid (btK (min high p.2)) with
    | some x => exact .inl ⟨x, rfl, bestT_lower h1 e⟩
    | none =>
      right
      refine ⟨rfl, bestT_ext (by unfold btK; omega) fun j hj1 hj2 hj3 => bestT_all e j hj2 ?_⟩
      unfold btK at hj1 hj2
      omega
  · rw [if_neg hr, if_neg hr, if_neg hr]; exact .inr ⟨rfl, rfl⟩

end Go.Proofs.YtpjjijhojcfmnaaGreat

namespace Go.Proofs.YtpjjijhojcfmnaaGreat
open Go.RowKit
set_option linter.unusedVariables false
set_option linter.unusedSimpArgs false
set_option maxRecDepth 100000
attribute [local go_sem high] eq_ad eq_pf eq_rt

theorem and_low (x : Int) : bits .and .i64 x 1023 = x % 1024 := by
  unfold bits
  have h1 : ((BitVec.ofInt IntKind.i64.bits x) &&& (BitVec.ofInt IntKind.i64.bits 1023)).toNat = (BitVec.ofInt 64 x).toNat % 2 ^ 10 := by
    show ((BitVec.ofInt 64 x) &&& (BitVec.ofInt 64 1023)).toNat = _
    rw [BitVec.toNat_and, show (BitVec.ofInt 64 1023).toNat = 2 ^ 10 - 1 from by decide, Nat.and_two_pow_sub_one_eq_mod]
  show IntKind.i64.wrap ((((BitVec.ofInt IntKind.i64.bits x) &&& (BitVec.ofInt IntKind.i64.bits 1023)).toNat : Nat) : Int) = _
  rw [h1, BitVec.toNat_ofInt, IntKind.wrap_i64]
  omega
/-- Which lengths of one address have a route. -/
def nestM (a : Ad) (th : List Bool) : Ad → Nat → Option Int := fun c k => if c = a.cut k ∧ th.getD k false = true then some (k : Int) else none
theorem getD_set_b (th : List Bool) (n : Nat) (b : Bool) (hn : n < th.length) (k : Nat) : (th.set n b).getD k false = if k = n then b else th.getD k false := by
  simp only [List.getD_eq_getElem?_getD, List.getElem?_set]
  by_cases h : n = k
  · subst h; simp [hn]
  · rw [if_neg h, if_neg (fun e => h e.symm)]
theorem nest_set (a : Ad) (th : List Bool) (n : Nat) (b : Bool) (hn : n < th.length) : updN (nestM a th) (a.cut n) n (if b = true then some (n : Int) else none) = nestM a (th.set n b) := by
  funext c k
  unfold updN nestM
  rw [getD_set_b th n b hn]
  by_cases h : c = a.cut n ∧ k = n
  · obtain ⟨rfl, rfl⟩ := h
    rw [if_pos ⟨rfl, rfl⟩, if_pos rfl]; simp
  · rw [if_neg h]
    by_cases h2 : k = n
    · subst h2; rw [if_neg (fun e => h ⟨e.1, rfl⟩), if_neg (fun e => h ⟨e.1, rfl⟩)]
    · rw [if_neg h2]
theorem nest_same (a : Ad) (th : List Bool) (n : Nat) (hn : n < th.length) (h : th.getD n false = false) : nestM a (th.set n false) = nestM a th := by
  funext c k
  unfold nestM
  rw [getD_set_b th n false hn]
  by_cases h2 : k = n
  · subst h2; rw [if_pos rfl, h]
  · rw [if_neg h2]
theorem nest_at (a : Ad) (th : List Bool) (n : Nat) : nestM a th (a.cut n) n = if th.getD n false = true then some (n : Int) else none := by
  unfold nestM; by_cases h : th.getD n false = true
  · rw [if_pos ⟨rfl, h⟩, if_pos h]
  · rw [if_neg (fun e => h e.2), if_neg h]
/-- How many have. -/
def cntT (th : List Bool) : Int := (th.count true : Int)
theorem cntT_set (th : List Bool) (n : Nat) (b : Bool) (hn : n < th.length) : cntT (th.set n b) = cntT th - (if th.getD n false = true then 1 else 0) + (if b = true then 1 else 0) := by
  unfold cntT
  rw [List.count_set hn]
  have e : th.getD n false = th[n] := by simp [hn]
  rw [e]
  have h0 : th[n] = true → 0 < th.count true := fun h => List.count_pos_iff.2 (by rw [← h]; exact List.getElem_mem hn)
  cases hx : th[n] <;> cases b <;> simp <;> (first | omega | (have := h0 hx; omega))

theorem best_step {m : Ad → Nat → Option Int} {b : Ad} (k : Nat) : bestT m b (-1) (k + 1) = match m (b.cut k) k with | some h => some (k, h) | none => bestT m b (-1) k := by
  rw [bestT, if_pos (by omega)]
  all_goals (cases m (b.cut k) k <;> rfl)
def bI (v : Option (Nat × Int)) : Int := match v with | some (j, _) => (j : Int) | none => -1
/-- The value stands for its own length. -/
theorem nest_best {a b : Ad} {th : List Bool} {K j : Nat} {h : Int} (e : bestT (nestM a th) b (-1) K = some (j, h)) : h = (j : Int) := by
  have h3 := (bestT_lt e).2.2
  unfold nestM at h3
  split at h3
  · injection h3 with h3; exact h3.symm
  · cases h3
theorem nest_step {a b : Ad} (ha : a.ok) (hb : b.ok) {th : List Bool} {k : Nat} (hk : k ≤ a.com b) : bestT (nestM a th) b (-1) (k + 1) = if th.getD k false = true then some (k, (k : Int)) else bestT (nestM a th) b (-1) k := by
  have hI := Ad.com_is a b
  have hc : b.cut k = a.cut k := (Ad.cut_eq hb ha k (by have := hI.1; omega)).2 fun i hi => (hI.2.1 i (by omega)).symm
  rw [best_step, hc, nest_at]
  by_cases h : th.getD k false = true
  · rw [if_pos h, if_pos h]
  · rw [if_neg h, if_neg h]
theorem nest_end {a b : Ad} (ha : a.ok) (hb : b.ok) (th : List Bool) : bestT (nestM a th) b (-1) 129 = bestT (nestM a th) b (-1) (a.com b + 1) := by
  have hI := Ad.com_is a b
  refine bestT_none (by have := hI.1; omega) fun j h1 h2 => ?_
  unfold nestM
  rw [if_neg]
  rintro ⟨e, _⟩
  have := (Ad.cut_eq hb ha j (by omega)).1 e (a.com b) (by omega)
  exact hI.2.2 (by omega) this.symm

theorem nest_get {a : Ad} (ha : a.ok) (th : List Bool) (n : Nat) (hn : n ≤ 128) : getV (nestM a th) (a.cut n, (n : Int)) = if th.getD n false = true then some (n : Int) else none := by
  unfold getV
  rw [if_pos ⟨by simp, by show (n : Int) ≤ 128; omega, by show (a.cut n).cut (n : Int).toNat = a.cut n; rw [Int.toNat_natCast, Ad.cut_cut ha n n hn hn, Nat.min_self]⟩]
  show nestM a th (a.cut n) (n : Int).toNat = _
  rw [Int.toNat_natCast, nest_at]
theorem nest_del {a : Ad} (ha : a.ok) (th : List Bool) (n : Nat) (hn : n ≤ 128) (hl : th.length = 129) :
    (if (getV (nestM a th) (a.cut n, (n : Int))).isSome then updN (nestM a th) (a.cut n) (n : Int).toNat none else nestM a th) = nestM a (th.set n false) ∧
    (if (getV (nestM a th) (a.cut n, (n : Int))).isSome then cntT th - 1 else cntT th) = cntT (th.set n false) := by
  rw [nest_get ha th n hn, Int.toNat_natCast, cntT_set th n false (by omega)]
  have h0 := nest_set a th n false (by omega)
  rw [if_neg (by decide)] at h0
  by_cases h : th.getD n false = true
  · rw [if_pos h, if_pos h]; simp only [Option.isSome_some, if_true]
    exact ⟨h0, by simp⟩
  · rw [if_neg h, if_neg h]
    refine ⟨?_, by simp⟩
    rw [nest_same a th n (by omega) (by simpa using h)]; rfl
theorem nest_put {a : Ad} (ha : a.ok) (th : List Bool) (n : Nat) (hn : n ≤ 128) (hl : th.length = 129) :
    putM (nestM a th) (a.cut n, (n : Int)) (n : Int) = nestM a (th.set n true) ∧ putC (nestM a th) (a.cut n, (n : Int)) (cntT th) = cntT (th.set n true) := by
  have hr : Pf.right (a.cut n, (n : Int)) := ⟨by simp, by show (n : Int) ≤ 128; omega, by show (a.cut n).cut (n : Int).toNat = a.cut n; rw [Int.toNat_natCast, Ad.cut_cut ha n n hn hn, Nat.min_self]⟩
  have h0 := nest_set a th n true (by omega)
  rw [if_pos rfl] at h0
  unfold putM putC
  rw [if_pos hr, if_pos hr]
  show updN (nestM a th) (a.cut n) (n : Int).toNat (some (n : Int)) = _ ∧ (if (nestM a th (a.cut n) (n : Int).toNat).isSome then cntT th else cntT th + 1) = _
  rw [Int.toNat_natCast, nest_at, cntT_set th n true (by omega)]
  refine ⟨h0, ?_⟩
  by_cases h : th.getD n false = true
  · rw [if_pos h, if_pos h]; simp
  · rw [if_neg h, if_neg h]; simp
theorem nest_none (a : Ad) (n : Nat) : nestM a (List.replicate n false) = fun _ _ => none := by
  funext c k
  unfold nestM
  rw [if_neg]
  rintro ⟨_, h⟩
  have e : (List.replicate n false).getD k false = false := by
    simp only [List.getD_eq_getElem?_getD, List.getElem?_replicate]; split <;> rfl
  rw [e] at h
  cases h
theorem cntT_none (n : Nat) : cntT (List.replicate n false) = 0 := by unfold cntT; simp [List.count_replicate]
theorem cntT_le (th : List Bool) (h : th.length = 129) : 0 ≤ cntT th ∧ cntT th ≤ 129 := by
  unfold cntT; have := List.count_le_length (a := true) (l := th); omega

def bools (th : List Bool) : List Value := th.map Value.bool
theorem bools_get {th : List Bool} {i : Nat} (h : i < th.length) : (bools th)[i]? = some (.bool (th.getD i false)) := by
  simp [bools, h]
theorem bools_set (th : List Bool) (i : Nat) (b : Bool) : (bools th).set i (.bool b) = bools (th.set i b) := by simp [bools, List.map_set]

theorem b_row : (Tryz.prog.info? 4).map (fun i => (i.zero, i.size, i.bytes)) = some (some (.bool false), 1, 1) := by kernel_rfl

end Go.Proofs.YtpjjijhojcfmnaaGreat

namespace Go.Proofs.YtpjjijhojcfmnaaGreat
open Go.RowKit
set_option linter.unusedVariables false
set_option linter.unusedSimpArgs false

/-- What a list says of a prefix. -/
def mapOf (l : List Rt) : Ad → Nat → Option Int := fun c k => (l.find? (fun r => decide (r.1 = (c, (k : Int))))).map (·.2)
/-- In order, and all are prefixes. -/
structure Srt (l : List Rt) : Prop where
  ok : ∀ r ∈ l, r.1.1.ok ∧ r.1.right
  ord : l.Pairwise (fun x y => x.1.lt y.1)
theorem Srt.nil : Srt [] := ⟨fun r h => by simp at h, .nil⟩
theorem Srt.one {l : List Rt} (h : Srt l) {x y : Rt} (hx : x ∈ l) (hy : y ∈ l) (e : x.1 = y.1) : x = y := by
  have := h.ord
  clear h
  induction l with
  | nil => simp at hx
  | cons z l ih =>
    rw [List.pairwise_cons] at this
    rcases List.mem_cons.1 hx with rfl | hx' <;> rcases List.mem_cons.1 hy with rfl | hy'
    · rfl
    · exact absurd (this.1 y hy') (by rw [e]; exact pf_lt_irrefl _)
    · exact absurd (this.1 x hx') (by rw [e]; exact pf_lt_irrefl _)
    · exact ih hx' hy' this.2
theorem Srt.map {l : List Rt} (h : Srt l) (c : Ad) (k : Nat) (v : Int) : mapOf l c k = some v ↔ ((c, (k : Int)), v) ∈ l := by
  unfold mapOf
  constructor
  · intro e
    cases hf : l.find? (fun r => decide (r.1 = (c, (k : Int)))) with
    | none => rw [hf] at e; cases e
    | some r =>
      rw [hf] at e
      injection e with e
      have h1 := List.find?_some hf
      have h2 := List.mem_of_find?_eq_some hf
      simp only [decide_eq_true_eq] at h1
      obtain ⟨q, u⟩ := r
      simp only at h1 e
      subst h1 e
      exact h2
  · intro hm
    cases hf : l.find? (fun r => decide (r.1 = (c, (k : Int)))) with
    | none =>
      have := List.find?_eq_none.1 hf _ hm
      simp at this
    | some r =>
      have h1 := List.find?_some hf
      have h2 := List.mem_of_find?_eq_some hf
      simp only [decide_eq_true_eq] at h1
      rw [h.one h2 hm h1]; rfl
theorem map_ext {f g : Ad → Nat → Option Int} (h : ∀ c k v, f c k = some v ↔ g c k = some v) : f = g := by
  funext c k
  cases e : f c k with
  | some v => exact ((h c k v).1 e).symm
  | none =>
    cases e' : g c k with
    | none => rfl
    | some v => rw [(h c k v).2 e'] at e; cases e
theorem right_cast {p : Pf} (h : p.right) : ((p.2.toNat : Nat) : Int) = p.2 := Int.toNat_of_nonneg h.1
theorem Srt.get {l : List Rt} (h : Srt l) (p : Pf) (v : Int) : getV (mapOf l) p = some v ↔ (p, v) ∈ l := by
  unfold getV
  by_cases hr : p.right
  · rw [if_pos hr, h.map, right_cast hr]
  · rw [if_neg hr]
    exact ⟨fun e => (by cases e), fun e => absurd (h.ok _ e).2 hr⟩
theorem Srt.getN {l : List Rt} (h : Srt l) (p : Pf) : getV (mapOf l) p = none ↔ ∀ x ∈ l, x.1 ≠ p := by
  constructor
  · intro e x hx hp
    have := (h.get p x.2).2 (by rw [← hp]; exact hx)
    rw [this] at e; cases e
  · intro hx
    cases e : getV (mapOf l) p with
    | none => rfl
    | some v => exact absurd rfl (hx _ ((h.get p v).1 e))

/-- What finding tells. -/
theorem find_parts {l : List Rt} (h : Srt l) (p : Pf) :
    (findI l p = -1 ∧ getV (mapOf l) p = none) ∨ ∃ (k : Nat) (u : Int), findI l p = (k : Int) ∧ l[k]? = some (p, u) ∧ getV (mapOf l) p = some u := by
  cases e : l.findIdx? (fun r => decide (r.1 = p)) with
  | none =>
    left
    refine ⟨by unfold findI; rw [e], (h.getN p).2 fun x hx => ?_⟩
    have := (List.findIdx?_eq_none_iff.1 e) x hx
    simpa using this
  | some k =>
    right
    obtain ⟨hk, h1, h2⟩ := List.findIdx?_eq_some_iff_getElem.1 e
    simp only [decide_eq_true_eq] at h1
    have h3 : l[k]? = some (p, l[k].2) := by rw [List.getElem?_eq_getElem hk, ← h1]
    exact ⟨k, l[k].2, by unfold findI; rw [e], h3, (h.get p _).2 (List.mem_of_getElem? h3)⟩

theorem into_has {l : List Rt} (h : l.Pairwise (fun x y => x.1.lt y.1)) {r x : Rt} : x ∈ intoL l r ↔ x = r ∨ (x ∈ l ∧ x.1 ≠ r.1) := by
  induction l with
  | nil => simp [intoL]
  | cons y l ih =>
    rw [List.pairwise_cons] at h
    have ih := ih h.2
    unfold intoL
    by_cases h1 : y.1.lt r.1
    · rw [if_pos h1, List.mem_cons, ih, List.mem_cons]
      constructor
      · rintro (rfl | rfl | ⟨h2, h3⟩)
        · exact .inr ⟨.inl rfl, fun e => pf_lt_irrefl _ (e ▸ h1)⟩
        · exact .inl rfl
        · exact .inr ⟨.inr h2, h3⟩
      · rintro (rfl | ⟨rfl | h2, h3⟩)
        · exact .inr (.inl rfl)
        · exact .inl rfl
        · exact .inr (.inr ⟨h2, h3⟩)
    · rw [if_neg h1]
      by_cases h2 : y.1 = r.1
      · rw [if_pos h2, List.mem_cons, List.mem_cons]
        constructor
        · rintro (rfl | h3)
          · exact .inl rfl
          · refine .inr ⟨.inr h3, fun e => ?_⟩
            have := h.1 x h3
            rw [h2, ← e] at this
            exact pf_lt_irrefl _ this
        · rintro (rfl | ⟨rfl | h3, h4⟩)
          · exact .inl rfl
          · exact absurd h2 h4
          · exact .inr h3
      · rw [if_neg h2, List.mem_cons, List.mem_cons]
        have h5 : r.1.lt y.1 := (pf_lt_total h2).resolve_left h1
        constructor
        · rintro (rfl | rfl | h3)
          · exact .inl rfl
          · exact .inr ⟨.inl rfl, h2⟩
          · refine .inr ⟨.inr h3, fun e => ?_⟩
            have := pf_lt_trans h5 (h.1 x h3)
            rw [e] at this
            exact pf_lt_irrefl _ this
        · rintro (rfl | ⟨h3, h4⟩)
          · exact .inl rfl
          · exact .inr h3
theorem into_ord {l : List Rt} (h : l.Pairwise (fun x y => x.1.lt y.1)) (r : Rt) : (intoL l r).Pairwise (fun x y => x.1.lt y.1) := by
  induction l with
  | nil => simp [intoL]
  | cons y l ih =>
    have h0 := List.pairwise_cons.1 h
    have ih := ih h0.2
    unfold intoL
    by_cases h1 : y.1.lt r.1
    · rw [if_pos h1, List.pairwise_cons]
      refine ⟨fun x hx => ?_, ih⟩
      rcases (into_has h0.2).1 hx with rfl | ⟨h2, _⟩
      · exact h1
      · exact h0.1 x h2
    · rw [if_neg h1]
      by_cases h2 : y.1 = r.1
      · rw [if_pos h2, List.pairwise_cons]
        exact ⟨fun x hx => h2 ▸ h0.1 x hx, h0.2⟩
      · rw [if_neg h2, List.pairwise_cons]
        have h5 : r.1.lt y.1 := (pf_lt_total h2).resolve_left h1
        refine ⟨fun x hx => ?_, h⟩
        rcases List.mem_cons.1 hx with rfl | hx
        · exact h5
        · exact pf_lt_trans h5 (h0.1 x hx)
theorem into_len {l : List Rt} (h : l.Pairwise (fun x y => x.1.lt y.1)) (r : Rt) : ((∀ x ∈ l, x.1 ≠ r.1) → (intoL l r).length = l.length + 1) ∧ ((∃ x ∈ l, x.1 = r.1) → (intoL l r).length = l.length) := by
  induction l with
  | nil => exact ⟨fun _ => rfl, fun ⟨x, hx, _⟩ => by simp at hx⟩
  | cons y l ih =>
    have h0 := List.pairwise_cons.1 h
    have ih := ih h0.2
    unfold intoL
    by_cases h1 : y.1.lt r.1
    · rw [if_pos h1]
      refine ⟨fun hn => ?_, fun ⟨x, hx, e⟩ => ?_⟩
      · simp only [List.length_cons]; rw [ih.1 fun x hx => hn x (List.mem_cons_of_mem _ hx)]
      · rcases List.mem_cons.1 hx with rfl | hx
        · rw [e] at h1; exact absurd h1 (pf_lt_irrefl _)
        · simp only [List.length_cons]; rw [ih.2 ⟨x, hx, e⟩]
    · rw [if_neg h1]
      by_cases h2 : y.1 = r.1
      · rw [if_pos h2]
        exact ⟨fun hn => absurd h2 (hn y List.mem_cons_self), fun _ => rfl⟩
      · rw [if_neg h2]
        refine ⟨fun _ => rfl, fun ⟨x, hx, e⟩ => ?_⟩
        have h5 : r.1.lt y.1 := (pf_lt_total h2).resolve_left h1
        rcases List.mem_cons.1 hx with rfl | hx
        · exact absurd e h2
        · have := pf_lt_trans h5 (h0.1 x hx)
          rw [e] at this
          exact absurd this (pf_lt_irrefl _)
theorem Srt.into {l : List Rt} (h : Srt l) {r : Rt} (hr : r.1.1.ok ∧ r.1.right) : Srt (intoL l r) :=
  ⟨fun x hx => ((into_has h.ord).1 hx).elim (fun e => e ▸ hr) (fun e => h.ok x e.1), into_ord h.ord r⟩
theorem Srt.into_map {l : List Rt} (h : Srt l) {p : Pf} (u : Int) (hp : p.1.ok) (hr : p.right) :
    putM (mapOf l) p u = mapOf (intoL l (p, u)) ∧ putC (mapOf l) p (l.length : Int) = ((intoL l (p, u)).length : Int) := by
  have hs := h.into (r := (p, u)) ⟨hp, hr⟩
  constructor
  · apply map_ext
    intro c k v
    unfold putM
    rw [if_pos hr, hs.map, into_has h.ord]
    by_cases e : c = p.1 ∧ k = p.2.toNat
    · obtain ⟨rfl, rfl⟩ := e
      rw [updN_same, right_cast hr]
      constructor
      · intro e; injection e with e; subst e; exact .inl rfl
      · rintro (e | ⟨_, e⟩)
        · injection e with _ e; rw [e]
        · exact absurd rfl e
    · rw [updN_ne _ _ e, h.map]
      constructor
      · intro hm
        refine .inr ⟨hm, fun e2 => e ?_⟩
        simp only at e2
        subst e2
        exact ⟨rfl, by simp⟩
      · rintro (e2 | ⟨e2, _⟩)
        · injection e2 with e2 _
          subst e2
          exact absurd ⟨rfl, by simp⟩ e
        · exact e2
  · unfold putC
    rw [if_pos hr]
    have hg : mapOf l p.1 p.2.toNat = getV (mapOf l) p := by unfold getV; rw [if_pos hr]
    rw [hg]
    cases e : getV (mapOf l) p with
    | none => rw [(into_len h.ord (p, u)).1 ((h.getN p).1 e)]; simp
    | some v => rw [(into_len h.ord (p, u)).2 ⟨_, (h.get p v).1 e, rfl⟩]; simp
theorem without_has {l : List Rt} {p : Pf} {x : Rt} : x ∈ withoutL l p ↔ x ∈ l ∧ x.1 ≠ p := by unfold withoutL; rw [List.mem_filter]; simp
theorem Srt.without {l : List Rt} (h : Srt l) (p : Pf) : Srt (withoutL l p) :=
  ⟨fun x hx => h.ok x (without_has.1 hx).1, h.ord.sublist List.filter_sublist⟩
theorem without_len {l : List Rt} (h : l.Pairwise (fun x y => x.1.lt y.1)) (p : Pf) : ((∀ x ∈ l, x.1 ≠ p) → withoutL l p = l) ∧ ((∃ x ∈ l, x.1 = p) → (withoutL l p).length + 1 = l.length) := by
  constructor
  · intro hn
    unfold withoutL
    rw [List.filter_eq_self]
    intro x hx
    simpa using hn x hx
  · rintro ⟨x, hx, e⟩
    induction l with
    | nil => simp at hx
    | cons y l ih =>
      have h0 := List.pairwise_cons.1 h
      unfold withoutL
      rcases List.mem_cons.1 hx with rfl | hx
      · rw [List.filter_cons_of_neg (by simpa using e), List.filter_eq_self.2]
        · rfl
        · intro z hz
          have := h0.1 z hz
          simp only [decide_eq_true_eq]
          intro e2
          rw [e2, e] at this
          exact pf_lt_irrefl _ this
      · have hy : y.1 ≠ p := by
          intro e2
          have := h0.1 x hx
          rw [e, e2] at this
          exact pf_lt_irrefl _ this
        rw [List.filter_cons_of_pos (by simpa using hy)]
        have := ih h0.2 hx
        unfold withoutL at this
        simp only [List.length_cons]
        omega
theorem Srt.without_map {l : List Rt} (h : Srt l) (p : Pf) :
    (if (getV (mapOf l) p).isSome then updN (mapOf l) p.1 p.2.toNat none else mapOf l) = mapOf (withoutL l p) ∧ (if (getV (mapOf l) p).isSome then (l.length : Int) - 1 else (l.length : Int)) = ((withoutL l p).length : Int) := by
  cases e : getV (mapOf l) p with
  | none =>
    rw [(without_len h.ord p).1 ((h.getN p).1 e)]
    exact ⟨rfl, rfl⟩
  | some v =>
    have hm := (h.get p v).1 e
    have hr := (h.ok _ hm).2
    have hlen := (without_len h.ord p).2 ⟨_, hm, rfl⟩
    refine ⟨?_, by simp; omega⟩
    simp only [Option.isSome_some, if_true]
    apply map_ext
    intro c k u
    rw [(h.without p).map, without_has]
    by_cases e2 : c = p.1 ∧ k = p.2.toNat
    · obtain ⟨rfl, rfl⟩ := e2
      rw [updN_same, right_cast hr]
      exact ⟨fun e => (by cases e), fun e => absurd rfl e.2⟩
    · rw [updN_ne _ _ e2, h.map]
      refine ⟨fun hx => ⟨hx, fun e3 => e2 ?_⟩, fun hx => hx.1⟩
      simp only at e3
      subst e3
      exact ⟨rfl, by simp⟩
theorem Srt.get_into {l : List Rt} (h : Srt l) {p : Pf} (u : Int) (hp : p.1.ok) (hr : p.right) : getV (mapOf (intoL l (p, u))) p = some u :=
  ((h.into (r := (p, u)) ⟨hp, hr⟩).get p u).2 ((into_has h.ord).2 (.inl rfl))
theorem Srt.get_without {l : List Rt} (h : Srt l) (p : Pf) : getV (mapOf (withoutL l p)) p = none :=
  ((h.without p).getN p).2 fun x hx => (without_has.1 hx).2
theorem get_no {m : Ad → Nat → Option Int} {p : Pf} (hr : ¬ p.right) : getV m p = none := if_neg hr

/-- What the longest of a list is. -/
theorem lonK_says {l : List Rt} {a : Ad} {low high : Int} : ∀ k, (lonK l a low high k = none → ∀ (j : Nat) (x : Rt), j < k → l[j]? = some x → ¬ inR x.1 a low high) ∧
    (∀ b, lonK l a low high k = some b → ∃ r, l[b]? = some r ∧ inR r.1 a low high ∧ ∀ (j : Nat) (x : Rt), j < k → l[j]? = some x → inR x.1 a low high → x.1.2 ≤ r.1.2)
  | 0 => ⟨fun _ j x hj => by omega, fun b e => by simp [lonK] at e⟩
  | k + 1 => by
    have ih := lonK_says (l := l) (a := a) (low := low) (high := high) k
    unfold lonK
    cases hk : l[k]? with
    | none =>
      simp only
      refine ⟨fun e j x hj hx => ?_, fun b e => ?_⟩
      · by_cases hjk : j = k
        · subst hjk; rw [hk] at hx; cases hx
        · exact ih.1 e j x (by omega) hx
      · obtain ⟨r, h1, h2, h3⟩ := ih.2 b e
        refine ⟨r, h1, h2, fun j x hj hx hi => ?_⟩
        by_cases hjk : j = k
        · subst hjk; rw [hk] at hx; cases hx
        · exact h3 j x (by omega) hx hi
    | some r =>
      simp only
      by_cases hin : inR r.1 a low high
      · rw [if_pos hin]
        cases hb : lonK l a low high k with
        | none =>
          simp only
          refine ⟨fun e => (by cases e), fun b e => ?_⟩
          injection e with e
          subst e
          refine ⟨r, hk, hin, fun j x hj hx hi => ?_⟩
          by_cases hjk : j = k
          · subst hjk; rw [hk] at hx; injection hx with hx; subst hx; exact Int.le_refl _
          · exact absurd hi (ih.1 hb j x (by omega) hx)
        | some b' =>
          simp only
          obtain ⟨r', h1, h2, h3⟩ := ih.2 b' hb
          have hla : lenAt l b' = r'.1.2 := by unfold lenAt; rw [h1]
          rw [hla]
          by_cases hlt : r'.1.2 < r.1.2
          · rw [if_pos hlt]
            refine ⟨fun e => (by cases e), fun b e => ?_⟩
            injection e with e
            subst e
            refine ⟨r, hk, hin, fun j x hj hx hi => ?_⟩
            by_cases hjk : j = k
            · subst hjk; rw [hk] at hx; injection hx with hx; subst hx; exact Int.le_refl _
            · have := h3 j x (by omega) hx hi; omega
          · rw [if_neg hlt]
            refine ⟨fun e => (by cases e), fun b e => ?_⟩
            injection e with e
            subst e
            refine ⟨r', h1, h2, fun j x hj hx hi => ?_⟩
            by_cases hjk : j = k
            · subst hjk; rw [hk] at hx; injection hx with hx; subst hx; omega
            · exact h3 j x (by omega) hx hi
      · rw [if_neg hin]
        refine ⟨fun e j x hj hx => ?_, fun b e => ?_⟩
        · by_cases hjk : j = k
          · subst hjk; rw [hk] at hx; injection hx with hx; subst hx; exact hin
          · exact ih.1 e j x (by omega) hx
        · obtain ⟨r', h1, h2, h3⟩ := ih.2 b e
          refine ⟨r', h1, h2, fun j x hj hx hi => ?_⟩
          by_cases hjk : j = k
          · subst hjk; rw [hk] at hx; injection hx with hx; subst hx; exact absurd hi hin
          · exact h3 j x (by omega) hx hi
/-- Above what was found there is nothing. -/
theorem bestT_top {m : Ad → Nat → Option Int} {a : Ad} {low : Int} : ∀ {K i : Nat} {h : Int}, bestT m a low K = some (i, h) → ∀ j, i < j → j < K → m (a.cut j) j = none
  | 0, i, h, e => by simp [bestT] at e
  | K + 1, i, h, e => by
    intro j h1 h2
    have hi := (bestT_lt e).2.1
    unfold bestT at e
    rw [if_pos (by omega)] at e
    cases h3 : m (a.cut K) K with
    | some h' => rw [h3] at e; injection e with e; injection e with e1 e2; omega
    | none =>
      rw [h3] at e
      by_cases h4 : j = K
      · subst h4; exact h3
      · exact bestT_top e j h1 (by omega)
theorem long_parts {l : List Rt} (h : Srt l) {a : Ad} (ha : a.ok) (low high : Int) :
    (longI l a low high = -1 ∧ bestT (mapOf l) a low (btK high) = none) ∨ ∃ (k : Nat) (x : Nat × Int), longI l a low high = (k : Int) ∧ l[k]? = some (btR a (some x)) ∧ bestT (mapOf l) a low (btK high) = some x := by
  have hin : ∀ (x : Rt), x ∈ l → inR x.1 a low high → ∃ i : Nat, i < btK high ∧ low < (i : Int) ∧ x.1 = (a.cut i, (i : Int)) ∧ mapOf l (a.cut i) i = some x.2 := by
    rintro ⟨⟨c, n⟩, u⟩ hx ⟨h1, h2, h3⟩
    have hr := h3.1
    simp only at h1 h2 hr
    have hc := right_cast hr
    simp only at hc
    have h5 : a.cut n.toNat = c := h3.2
    refine ⟨n.toNat, ?_, by omega, ?_, ?_⟩
    · have := hr.2.1; have := hr.1; unfold btK; simp only at *; omega
    · rw [h5, hc]
    · rw [h5]; exact (h.map _ _ _).2 (by rw [hc]; exact hx)
  have hout : ∀ (i : Nat) (v : Int), i < btK high → low < (i : Int) → mapOf l (a.cut i) i = some v → ((a.cut i, (i : Int)), v) ∈ l ∧ inR (a.cut i, (i : Int)) a low high := by
    intro i v h1 h2 h3
    have hm := (h.map _ _ _).1 h3
    refine ⟨hm, h2, ?_, (h.ok _ hm).2, ?_⟩
    · unfold btK at h1; show (i : Int) ≤ high; omega
    · show a.cut (i : Int).toNat = a.cut i; rw [Int.toNat_natCast]
  have hS := lonK_says (l := l) (a := a) (low := low) (high := high) l.length
  unfold longI
  cases e : lonK l a low high l.length with
  | none =>
    left
    refine ⟨rfl, ?_⟩
    cases e2 : bestT (mapOf l) a low (btK high) with
    | none => rfl
    | some x =>
      obtain ⟨i, v⟩ := x
      obtain ⟨h1, h2, h3⟩ := bestT_lt e2
      obtain ⟨h4, h5⟩ := hout i v h1 h2 h3
      obtain ⟨j, hj⟩ := List.getElem?_of_mem h4
      exact absurd h5 (hS.1 e j _ (List.getElem?_eq_some_iff.1 hj).1 hj)
  | some b =>
    right
    obtain ⟨r, h1, h2, h3⟩ := hS.2 b e
    obtain ⟨i, i1, i2, i3, i4⟩ := hin r (List.mem_of_getElem? h1) h2
    cases e2 : bestT (mapOf l) a low (btK high) with
    | none => rw [bestT_all e2 i i1 i2] at i4; cases i4
    | some x =>
      obtain ⟨i', v⟩ := x
      obtain ⟨j1, j2, j3⟩ := bestT_lt e2
      obtain ⟨j4, j5⟩ := hout i' v j1 j2 j3
      obtain ⟨j, hj⟩ := List.getElem?_of_mem j4
      have h6 := h3 j _ (List.getElem?_eq_some_iff.1 hj).1 hj j5
      rw [i3] at h6
      simp only at h6
      have h7 : ¬ i' < i := fun hlt => by
        have := bestT_top e2 i hlt i1
        rw [this] at i4; cases i4
      obtain rfl : i' = i := by omega
      rw [j3] at i4
      injection i4 with i4
      refine ⟨b, (i', v), rfl, ?_, rfl⟩
      rw [h1]
      obtain ⟨q, u⟩ := r
      simp only at i3 i4
      subst i3 i4
      rfl

end Go.Proofs.YtpjjijhojcfmnaaGreat
