/-
  A trie in memory: nodes by the bits that lead to them, each a block of its own; what each operation of it leaves. No condition.
  Contracts of package trie's functions over a trie in memory. No condition but that words are words.
  Contracts of Put, Get, Delete, Len over a trie in memory. No condition but that words are words, and that the count is no great number.
  Contracts of Between, Longest, Cover over a trie in memory: the longest prefix of an address within bounds. No condition but that words are words.
  The walk of the law TrieCovers, and of the example of package trie: for all inputs it returns true and leaves memory alone. No condition.
  The walk of the law TrieNested: for all inputs it returns true and leaves memory alone. No condition.
  A list of routes in order, against a table of them: what finding, taking out, putting in, and the longest, say of both. No condition.
-/
import Derived.Test.YtcnecjjgnnkjkaaGRef
import Derived.Test.YtcnecjjgnnkjkaaProg
import Derived.WalkSpells
import Derived.Deep.RegionHeld3
import Derived.Test.YtcnecjjgnnkjkaaGBase
namespace Go.Proofs.Ytcnecjjgnnkjkaa
open Go.RowKit
set_option linter.unusedVariables false
set_option linter.unusedSimpArgs false

/-- c has i bits alone. -/
def Kok (c : Ad) (i : Nat) : Prop := c.ok ∧ c.cut i = c ∧ i ≤ 128
theorem Kok.of_cut {a : Ad} (ha : a.ok) {i : Nat} (hi : i ≤ 128) : Kok (a.cut i) i := ⟨Ad.cut_ok ha i, by rw [Ad.cut_cut ha i i hi hi, Nat.min_self], hi⟩
theorem Kok.root : Kok (0, 0) 0 := ⟨⟨by decide, by decide⟩, by decide, by decide⟩
theorem Kok.bit_out {c : Ad} {i : Nat} (h : Kok c i) {j : Nat} (hj : i ≤ j) (h128 : j < 128) : c.bit j = 0 := by
  have := Ad.bit_cut h.1 i j h.2.2 h128
  rw [h.2.1, if_neg (by omega)] at this; exact this
theorem Kok.zero {c : Ad} {i : Nat} (h : Kok c i) (hi : i < 128) : Kok c (i + 1) := by
  refine ⟨h.1, ?_, by omega⟩
  conv => lhs; rw [← h.2.1]
  rw [Ad.cut_cut h.1 i (i + 1) h.2.2 (by omega), Nat.min_eq_left (by omega), h.2.1]
theorem with_cut {c : Ad} {i : Nat} (h : Kok c i) (hi : i < 128) : (c.with i).cut i = c := by
  apply Ad.ext_bits (Ad.cut_ok (Ad.with_ok h.1 i) i) h.1
  intro j hj
  rw [Ad.bit_cut (Ad.with_ok h.1 i) i j h.2.2 hj, Ad.bit_with c i j hi hj]
  by_cases h1 : j < i
  · rw [if_pos h1, if_neg (by omega)]
  · rw [if_neg h1, h.bit_out (by omega) hj]
theorem Kok.one {c : Ad} {i : Nat} (h : Kok c i) (hi : i < 128) : Kok (c.with i) (i + 1) := by
  refine ⟨Ad.with_ok h.1 i, ?_, by omega⟩
  apply Ad.ext_bits (Ad.cut_ok (Ad.with_ok h.1 i) _) (Ad.with_ok h.1 i)
  intro j hj
  rw [Ad.bit_cut (Ad.with_ok h.1 i) (i + 1) j (by omega) hj, Ad.bit_with c i j hi hj]
  by_cases h1 : j < i + 1
  · rw [if_pos h1]
  · rw [if_neg h1, if_neg (by omega), h.bit_out (by omega) hj]
theorem with_ne {c : Ad} {i : Nat} (h : Kok c i) (hi : i < 128) : c.with i ≠ c := by
  intro e
  have h1 := Ad.bit_with c i i hi hi
  rw [e, h.bit_out (Nat.le_refl _) hi, if_pos rfl] at h1
  exact absurd h1 (by decide)
/-- The child that an address leads to. -/
def kid (c : Ad) (i bit : Nat) : Ad := if bit = 1 then c.with i else c
theorem kid_cut (a : Ad) (ha : a.ok) (i : Nat) (hi : i < 128) : a.cut (i + 1) = kid (a.cut i) i (a.bit i) := cut_next a ha i hi
theorem kid_ok {c : Ad} {i : Nat} (h : Kok c i) (hi : i < 128) (bit : Nat) : Kok (kid c i bit) (i + 1) := by unfold kid; split; exact h.one hi; exact h.zero hi
theorem kid_up {c : Ad} {i : Nat} (h : Kok c i) (hi : i < 128) (bit : Nat) : (kid c i bit).cut i = c := by unfold kid; split; exact with_cut h hi; exact h.2.1

def ptrV : Option Nat → Value
  | none => .pointer none
  | some b => .pointer (some ⟨b, 0, none⟩)
def nodeT (g b : Nat) : TypeId := if b = g then 76 else 74
def nodeC (g b : Nat) (n : Int) (v : Option Int) (l r : Option Nat) : List Value := [.bool v.isSome, .int .i64 (v.getD 0), ptrV l, ptrV r] ++ if b = g then [.int .i64 n] else []

/-- The trie at block g: N where each node lies, m what each prefix has, n how many there are; its blocks are all in F. -/
structure TrieN (w : World) (g : Nat) (F : Nat → Prop) (N : Ad → Nat → Option Nat) (m : Ad → Nat → Option Int) (n : Int) : Prop where
  root : N (0, 0) 0 = some g
  node : ∀ c i b, Kok c i → N c i = some b → F b ∧ Blk w b (nodeT g b) (nodeC g b n (m c i) (N c (i + 1)) (N (c.with i) (i + 1)))
  deep : ∀ c, N c 129 = none
  inj : ∀ c i c' i' b, Kok c i → Kok c' i' → N c i = some b → N c' i' = some b → c = c' ∧ i = i'
  up : ∀ c i, Kok c (i + 1) → N (c.cut i) i = none → N c (i + 1) = none
  val : ∀ c i, Kok c i → N c i = none → m c i = none
  lt : ∀ b, F b → b < w.heap.size

section
variable {w : World} {g : Nat} {F : Nat → Prop} {N : Ad → Nat → Option Nat} {m : Ad → Nat → Option Int} {n : Int}
theorem TrieN.chg {w' : World} {S : Nat → Prop} (H : TrieN w g F N m n) (k : Chg S w w') (hS : ∀ b, F b → ¬ S b) : TrieN w' g F N m n :=
  ⟨H.root, fun c i b hk hb => ⟨(H.node c i b hk hb).1, (H.node c i b hk hb).2.chg k (hS b (H.node c i b hk hb).1)⟩, H.deep, H.inj, H.up, H.val, fun b hb => Nat.lt_of_lt_of_le (H.lt b hb) k.size⟩
theorem TrieN.below {w' : World} (H : TrieN w g F N m n) (k : Below w.heap.size w w') : TrieN w' g F N m n := H.chg (Chg.of_below k fun _ => False) fun _ _ h => h
theorem TrieN.rootF (H : TrieN w g F N m n) : F g := (H.node _ _ _ Kok.root H.root).1
theorem TrieN.top (H : TrieN w g F N m n) : ∃ (v : Option Int) (l r : Option Nat), Blk w g 76 [.bool v.isSome, .int .i64 (v.getD 0), ptrV l, ptrV r, .int .i64 n] := by
  have h := (H.node _ _ _ Kok.root H.root).2
  unfold nodeT nodeC at h
  rw [if_pos rfl, if_pos rfl] at h
  exact ⟨_, _, _, h⟩
/-- Below a prefix that has no node there is none. -/
theorem TrieN.none_below (H : TrieN w g F N m n) {a : Ad} (ha : a.ok) {i : Nat} (hi : N (a.cut i) i = none) : ∀ j, i ≤ j → j ≤ 128 → N (a.cut j) j = none
  | j, hij, hj => by
    induction j with
    | zero => obtain rfl : i = 0 := by omega
              exact hi
    | succ j ih =>
      by_cases e : i = j + 1
      · subst e; exact hi
      · apply H.up _ _ (Kok.of_cut ha hj)
        rw [Ad.cut_cut ha _ _ (by omega) (by omega), Nat.min_eq_right (by omega)]
        exact ih (by omega) (by omega)
/-- The cell of the child that an address leads to. -/
theorem TrieN.kid (H : TrieN w g F N m n) {a : Ad} (ha : a.ok) {i b : Nat} (hi : i < 128) (hb : N (a.cut i) i = some b) : w.cell? ⟨b, 2 + a.bit i, none⟩ = some (ptrV (N (a.cut (i + 1)) (i + 1))) := by
  have h := (H.node _ _ _ (Kok.of_cut ha (by omega)) hb).2
  have hle := Ad.bit_le a i
  rw [kid_cut a ha i hi]
  unfold Proofs.Ytcnecjjgnnkjkaa.kid
  by_cases h1 : a.bit i = 1
  · rw [h1, if_pos rfl]; exact h.cellv (i := 3) rfl
  · have h0 : a.bit i = 0 := by omega
    rw [h0, if_neg (by decide)]; exact h.cellv (i := 2) rfl
def updN {α : Type} (f : Ad → Nat → Option α) (c : Ad) (i : Nat) (v : Option α) : Ad → Nat → Option α := fun c' i' => if c' = c ∧ i' = i then v else f c' i'
theorem updN_same {α : Type} (f : Ad → Nat → Option α) (c : Ad) (i : Nat) (v : Option α) : updN f c i v c i = v := if_pos ⟨rfl, rfl⟩
theorem updN_ne {α : Type} (f : Ad → Nat → Option α) {c c' : Ad} {i i' : Nat} (v : Option α) (h : ¬ (c' = c ∧ i' = i)) : updN f c i v c' i' = f c' i' := if_neg h

/-- A new node where there was none. -/
theorem TrieN.grow (H : TrieN w g F N m n) {a : Ad} (ha : a.ok) {i b : Nat} (hi : i < 128) (hb : N (a.cut i) i = some b) (hno : N (a.cut (i + 1)) (i + 1) = none) :
    TrieN ((w.alloc (.cells #[.bool false, .int .i64 0, .pointer none, .pointer none] 74)).setCell ⟨b, 2 + a.bit i, none⟩ (.pointer (some ⟨w.heap.size, 0, none⟩))) g (fun x => F x ∨ x = w.heap.size) (updN N (a.cut (i + 1)) (i + 1) (some w.heap.size)) m n := by
  have hk := Kok.of_cut ha (i := i) (by omega)
  have hk1 := Kok.of_cut ha (i := i + 1) (by omega)
  have hcut : (a.cut (i + 1)).cut i = a.cut i := by rw [Ad.cut_cut ha _ _ (by omega) (by omega), Nat.min_eq_right (by omega)]
  have hnb := (H.node _ _ _ hk hb)
  have hbl := H.lt b hnb.1
  have hkid := kid_cut a ha i hi
  have hle := Ad.bit_le a i
  have hgl := H.lt g H.rootF
  -- who else has this child
  have hpar : ∀ c' i', Kok c' i' → i' < 129 → (c' = a.cut (i + 1) ∧ i' + 1 = i + 1 ∨ c'.with i' = a.cut (i + 1) ∧ i' + 1 = i + 1) → c' = a.cut i ∧ i' = i := by
    rintro c' i' hk' _ (⟨h1, h2⟩ | ⟨h1, h2⟩)
    · obtain rfl : i' = i := by omega
      exact ⟨by rw [← hcut, ← h1]; exact hk'.2.1.symm, rfl⟩
    · obtain rfl : i' = i := by omega
      exact ⟨by rw [← hcut, ← h1]; exact (with_cut hk' hi).symm, rfl⟩
  refine ⟨?_, ?_, ?_, ?_, ?_, ?_, ?_⟩
  · rw [updN_ne _ _ (by omega)]; exact H.root
  · intro c' i' b' hk' hb'
    by_cases e : c' = a.cut (i + 1) ∧ i' = i + 1
    · obtain ⟨rfl, rfl⟩ := e
      rw [updN_same] at hb'
      injection hb' with hb'
      subst hb'
      refine ⟨.inr rfl, ?_⟩
      have hz : ∀ c2, Kok c2 (i + 2) → c2.cut (i + 1) = a.cut (i + 1) → N c2 (i + 2) = none := fun c2 h2 e2 => H.up c2 (i + 1) h2 (by rw [e2]; exact hno)
      have hl : updN N (a.cut (i + 1)) (i + 1) (some w.heap.size) (a.cut (i + 1)) (i + 1 + 1) = none := by
        rw [updN_ne _ _ (by omega)]
        by_cases h128 : i + 1 < 128
        · exact hz _ (hk1.zero h128) hk1.2.1
        · rw [show i + 1 + 1 = 129 from by omega]; exact H.deep _
      have hr : updN N (a.cut (i + 1)) (i + 1) (some w.heap.size) ((a.cut (i + 1)).with (i + 1)) (i + 1 + 1) = none := by
        rw [updN_ne _ _ (by omega)]
        by_cases h128 : i + 1 < 128
        · exact hz _ (hk1.one h128) (with_cut hk1 h128)
        · rw [show i + 1 + 1 = 129 from by omega]; exact H.deep _
      rw [hl, hr, H.val _ _ hk1 hno]
      unfold nodeT nodeC
      rw [if_neg (by omega), if_neg (by omega)]
      exact (Blk.new w [.bool false, .int .i64 0, .pointer none, .pointer none] 74).set_ne (by simp; omega) _
    · rw [updN_ne _ _ e] at hb'
      obtain ⟨hF, hB⟩ := H.node c' i' b' hk' hb'
      refine ⟨.inl hF, ?_⟩
      by_cases e2 : c' = a.cut i ∧ i' = i
      · obtain ⟨rfl, rfl⟩ := e2
        rw [hb] at hb'
        injection hb' with hb'
        subst hb'
        have hBs := ((hB.alloc (.cells #[.bool false, .int .i64 0, .pointer none, .pointer none] 74)).set (2 + a.bit i') (.pointer (some ⟨w.heap.size, 0, none⟩)))
        by_cases h1 : a.bit i' = 1
        · have hkc : a.cut (i' + 1) = (a.cut i').with i' := by rw [hkid]; unfold Proofs.Ytcnecjjgnnkjkaa.kid; rw [if_pos h1]
          rw [h1] at hBs ⊢
          rw [hkc, updN_same, updN_ne _ _ (fun h => with_ne hk hi h.1.symm)]
          exact hBs
        · have h0 : a.bit i' = 0 := by omega
          have hkc : a.cut (i' + 1) = a.cut i' := by rw [hkid]; unfold Proofs.Ytcnecjjgnnkjkaa.kid; rw [if_neg h1]
          rw [h0] at hBs ⊢
          rw [hkc, updN_same, updN_ne _ _ (fun h => with_ne hk hi h.1)]
          exact hBs
      · have hne : b' ≠ b := fun e3 => e2 (by subst e3; exact H.inj _ _ _ _ _ hk' hk hb' hb)
        rw [updN_ne _ _ (fun h => e2 (hpar c' i' hk' (by have := hk'.2.2; omega) (.inl ⟨h.1, h.2⟩))), updN_ne _ _ (fun h => e2 (hpar c' i' hk' (by have := hk'.2.2; omega) (.inr ⟨h.1, h.2⟩)))]
        exact (hB.alloc _).set_ne (by simpa using hne) _
  · intro c'; rw [updN_ne _ _ (by omega)]; exact H.deep c'
  · intro c1 i1 c2 i2 b' h1 h2 e1 e2
    by_cases x1 : c1 = a.cut (i + 1) ∧ i1 = i + 1 <;> by_cases x2 : c2 = a.cut (i + 1) ∧ i2 = i + 1
    · exact ⟨x1.1.trans x2.1.symm, x1.2.trans x2.2.symm⟩
    · rw [x1.1, x1.2, updN_same] at e1
      rw [updN_ne _ _ x2] at e2
      injection e1 with e1
      subst e1
      exact absurd (H.lt _ (H.node _ _ _ h2 e2).1) (by omega)
    · rw [x2.1, x2.2, updN_same] at e2
      rw [updN_ne _ _ x1] at e1
      injection e2 with e2
      subst e2
      exact absurd (H.lt _ (H.node _ _ _ h1 e1).1) (by omega)
    · rw [updN_ne _ _ x1] at e1
      rw [updN_ne _ _ x2] at e2
      exact H.inj _ _ _ _ _ h1 h2 e1 e2
  · intro c' i' hk' e
    by_cases x1 : c' = a.cut (i + 1) ∧ i' + 1 = i + 1
    · obtain ⟨rfl, h2⟩ := x1
      obtain rfl : i' = i := by omega
      rw [hcut, updN_ne _ _ (by omega), hb] at e
      cases e
    · rw [updN_ne _ _ x1]
      apply H.up c' i' hk'
      by_cases x2 : c'.cut i' = a.cut (i + 1) ∧ i' = i + 1
      · rw [x2.1, x2.2, updN_same] at e; cases e
      · rwa [updN_ne _ _ x2] at e
  · intro c' i' hk' e
    by_cases x1 : c' = a.cut (i + 1) ∧ i' = i + 1
    · rw [x1.1, x1.2, updN_same] at e; cases e
    · rw [updN_ne _ _ x1] at e; exact H.val c' i' hk' e
  · intro x hx
    have : ((w.alloc (.cells #[.bool false, .int .i64 0, .pointer none, .pointer none] 74)).setCell ⟨b, 2 + a.bit i, none⟩ (.pointer (some ⟨w.heap.size, 0, none⟩))).heap.size = w.heap.size + 1 := by simp [World.setCell]
    rw [this]
    rcases hx with hx | hx
    · have := H.lt x hx; omega
    · omega

/-- Another value at a node. -/
theorem TrieN.set (H : TrieN w g F N m n) {c : Ad} {i b : Nat} (hk : Kok c i) (hb : N c i = some b) (v : Option Int) :
    TrieN ((w.setCell ⟨b, 1, none⟩ (.int .i64 (v.getD 0))).setCell ⟨b, 0, none⟩ (.bool v.isSome)) g F N (updN m c i v) n := by
  refine ⟨H.root, ?_, H.deep, H.inj, H.up, ?_, fun x hx => by have := H.lt x hx; simpa [World.setCell] using this⟩
  · intro c' i' b' hk' hb'
    obtain ⟨hF, hB⟩ := H.node c' i' b' hk' hb'
    refine ⟨hF, ?_⟩
    by_cases e : c' = c ∧ i' = i
    · obtain ⟨rfl, rfl⟩ := e
      rw [hb] at hb'
      injection hb' with hb'
      subst hb'
      rw [updN_same]
      exact (hB.set 1 _).set 0 _
    · have hne : b' ≠ b := fun e3 => e (by subst e3; exact H.inj _ _ _ _ _ hk' hk hb' hb)
      rw [updN_ne _ _ e]
      exact (hB.set_ne (by simpa using hne) _).set_ne (by simpa using hne) _
  · intro c' i' hk' e
    by_cases x : c' = c ∧ i' = i
    · rw [x.1, x.2, hb] at e; cases e
    · rw [updN_ne _ _ x]; exact H.val c' i' hk' e
/-- Another count. -/
theorem TrieN.setn (H : TrieN w g F N m n) (n' : Int) : TrieN (w.setCell ⟨g, 4, none⟩ (.int .i64 n')) g F N m n' := by
  refine ⟨H.root, ?_, H.deep, H.inj, H.up, H.val, fun x hx => by have := H.lt x hx; simpa [World.setCell] using this⟩
  intro c' i' b' hk' hb'
  obtain ⟨hF, hB⟩ := H.node c' i' b' hk' hb'
  refine ⟨hF, ?_⟩
  by_cases e : b' = g
  · subst e
    have := hB.set 4 (.int .i64 n')
    unfold nodeT nodeC at this ⊢
    rw [if_pos rfl, if_pos rfl] at this ⊢
    exact this
  · have := hB.set_ne (a := ⟨g, 4, none⟩) e (.int .i64 n')
    unfold nodeT nodeC at this ⊢
    rw [if_neg e, if_neg e] at this ⊢
    exact this
theorem TrieN.drewN (H : TrieN w g F N m n) (k : Nat) : TrieN (w.drewN k) g F N m n := H.chg ((Chg.refl (fun _ => False) w).drewN k) fun _ _ h => h
theorem TrieN.drew (H : TrieN w g F N m n) : TrieN w.drew g F N m n := H.chg ((Chg.refl (fun _ => False) w).drew) fun _ _ h => h
/-- A new trie. -/
theorem TrieN.new (w : World) : TrieN (w.alloc (.cells #[.bool false, .int .i64 0, .pointer none, .pointer none, .int .i64 0] 76)) w.heap.size (fun x => x = w.heap.size) (fun c i => if c = (0, 0) ∧ i = 0 then some w.heap.size else none) (fun _ _ => none) 0 := by
  refine ⟨if_pos ⟨rfl, rfl⟩, ?_, fun c => if_neg (by omega), ?_, fun c i hk e => if_neg (by omega), fun _ _ _ _ => rfl, fun x hx => by subst hx; simp⟩
  · intro c i b hk hb
    by_cases e : c = (0, 0) ∧ i = 0
    · rw [if_pos e] at hb
      injection hb with hb
      subst hb
      refine ⟨rfl, ?_⟩
      rw [if_neg (by omega), if_neg (by omega)]
      unfold nodeT nodeC
      rw [if_pos rfl, if_pos rfl]
      exact Blk.new w [.bool false, .int .i64 0, .pointer none, .pointer none, .int .i64 0] 76
    · rw [if_neg e] at hb; cases hb
  · intro c i c' i' b h1 h2 e1 e2
    by_cases x1 : c = (0, 0) ∧ i = 0 <;> by_cases x2 : c' = (0, 0) ∧ i' = 0
    · exact ⟨x1.1.trans x2.1.symm, x1.2.trans x2.2.symm⟩
    · rw [if_neg x2] at e2; cases e2
    · rw [if_neg x1] at e1; cases e1
    · rw [if_neg x1] at e1; cases e1
end

end Go.Proofs.Ytcnecjjgnnkjkaa

namespace Go.Proofs.Ytcnecjjgnnkjkaa
open Go.RowKit
set_option linter.unusedVariables false
set_option linter.unusedSimpArgs false
set_option maxRecDepth 100000
attribute [local go_sem high] eq_ad eq_pf eq_rt

def FindLoop (w : World) (p : Ad) (L : Nat) (N : Ad → Nat → Option Nat) (x i : Value) (wr : World) : Prop :=
  ∃ k : Nat, k ≤ L ∧ i = .int .i64 k ∧ x = ptrV (N (p.cut k) k) ∧ Blk wr w.heap.size 51 [.int .u64 (p.1 : Int), .int .u64 (p.2 : Int), .int .i64 (L : Int)] ∧ Below w.heap.size w wr

theorem trie_find {w : World} {g : Nat} {F : Nat → Prop} {N : Ad → Nat → Option Nat} {m : Ad → Nat → Option Int} {n : Int} (H : TrieN w g F N m n) (p : Pf) (hp : p.1.ok) :
    Calls Try.prog 51 #[.pointer (some ⟨g, 0, none⟩), .agg #[.int .u64 (p.1.1 : Int), .int .u64 (p.1.2 : Int), .int .i64 p.2], .bool false] w fun e w' =>
      e = .returned (ptrV (if p.right then N p.1 p.2.toNat else none)) ∧ Below w.heap.size w w' := by
  obtain ⟨b, hb⟩ : ∃ b : Bool, b = decide p.right := ⟨_, rfl⟩
  have c1 := hid fun w => addr_right p.1 hp p.2 b hb w
  by_cases hr : p.right
  · obtain rfl : b = true := by rw [hb]; exact decide_eq_true hr
    rw [if_pos hr]
    have h0 := hr.1
    have h1 := hr.2.1
    have hcut := hr.2.2
    obtain ⟨⟨a, b⟩, L⟩ := p
    obtain ⟨L, rfl⟩ := Int.eq_ofNat_of_zero_le h0
    have HCUT := hid hcut
    have HP := hid hp
    have HT := hid H
    have c2 := hid fun k w => addr_bitN (a, b) hp k _ rfl w
    have h128 : L ≤ 128 := by simp at h1; omega
    clear hr hb hcut H hp h0 h1
    go_enter Try.func51, Try.ntmps51
    go_wp2_with fail
    refine (c1.out _).mono ?_
    rintro _ w1 ⟨rfl, hb1⟩
    have hB := hid (Below.trans (b := _) ((Below.refl w.heap.size w).alloc (Nat.le_refl _) _) (hb1.mono (by simp)))
    have hX := hid ((Blk.new_at w #[.int .u64 (a : Int), .int .u64 (b : Int), .int .i64 (L : Int)] 51 w.heap.size rfl).below' hb1)
    clear hb1
    go_wp2_with fail
    go_loopw [7, 8] (fun x i wr => FindLoop w (a, b) L N x i wr) (fun _ i _ => L - (intOf i).toNat)
    case atStart =>
      refine ⟨0, Nat.zero_le _, rfl, ?_, hX.out, hB.out⟩
      rw [cut_none HP.out, HT.out.root]; rfl
    case round =>
      clear hX hB
      obtain ⟨k, hk, rfl, rfl, hX, hB⟩ := hrel
      have x0 := hX.cellv (i := 0) rfl
      have x1 := hX.cellv (i := 1) rfl
      have x2 := hX.cellv (i := 2) rfl
      by_cases hlt : k < L
      · cases hN : N (Ad.cut (a, b) k) k with
        | none =>
          have hno := hid (HT.out.none_below HP.out hN L hk h128)
          have HB := hid hB
          clear hN hX hB
          unfold ptrV
          go_wp2_with fail
          go_ret
          have h1 := hno.out
          rw [show Ad.cut (a, b) L = (a, b) from by simpa using HCUT.out] at h1
          have e : ptrV (N (a, b) ((L : Int).toNat)) = .pointer none := by rw [Int.toNat_natCast, h1]; rfl
          exact ⟨congrArg Ending.returned e.symm, HB.out⟩
        | some q =>
          have hkid := hid (HT.out.kid HP.out (show k < 128 by omega) hN)
          have hq := hid (HT.out.lt q (HT.out.node _ _ _ (Kok.of_cut HP.out (show k ≤ 128 by omega)) hN).1)
          have hbl := Ad.bit_le (a, b) k
          have cb := hid (c2.out k)
          have HX := hid hX
          have HB := hid hB
          clear hN hX hB
          generalize Ad.bit (a, b) k = bit at hkid cb hbl
          have hc0 : (0 : Int) ≤ (bit : Int) := by omega
          have hc1 : (bit : Int) < 2 := by omega
          unfold ptrV
          go_wp2_with fail
          refine wp_region_later (fun w' => w'.cell? ⟨w.heap.size, 0, none⟩ = some (.int .u64 (a : Int)) ∧ w'.cell? ⟨w.heap.size, 1, none⟩ = some (.int .u64 (b : Int)))
            (fun x => ⟨x.cell x0, x.cell x1⟩) (by kernel_rfl) (by kernel_rfl) (fun HS => ?_)
          repeat (go_big_quiet_step (with_reducible exact Later.calls _ (cb.out _)))
          refine wpQuiet_nil ?_
          rintro w4 ⟨⟨_, hb4⟩, rfl⟩
          have hB4 := hid (held_next HB.out hb4)
          have hX4 := hid (HX.out.below' hb4)
          have hkc := (hB4.out.cell (p := ⟨q, 2 + bit, none⟩) hq.out).trans hkid.out
          clear HS hb4 HX HB hkid x0 x1 x2
          cases hN2 : N (Ad.cut (a, b) (k + 1)) (k + 1) with
          | none =>
            rw [hN2] at hkc
            have HN2 := hid hN2
            clear hN2
            unfold ptrV at hkc
            go_wp2_with fail
            go_roundw
            case rel => exact ⟨k + 1, by omega, by go_num, by rw [HN2.out]; rfl, hX4.out, hB4.out⟩
            case measure => simp [intOf]; omega
          | some q2 =>
            rw [hN2] at hkc
            have HN2 := hid hN2
            clear hN2
            unfold ptrV at hkc
            go_wp2_with fail
            go_roundw
            case rel => exact ⟨k + 1, by omega, by go_num, by rw [HN2.out]; rfl, hX4.out, hB4.out⟩
            case measure => simp [intOf]; omega
      · obtain rfl : k = L := by omega
        have e : Ad.cut (a, b) k = (a, b) := by simpa using HCUT.out
        have HE := hid e
        have HB := hid hB
        have HNV : ∃ v, N (Ad.cut (a, b) k) k = v := ⟨_, rfl⟩
        obtain ⟨v, hv⟩ := HNV
        have HV := hid hv
        rw [hv]
        clear hX hB e hlt hk hv
        cases v
        all_goals
          unfold ptrV
          go_wp2_with fail
          go_ret
          refine ⟨congrArg Ending.returned ?_, HB.out⟩
          have h := HV.out
          rw [HE.out] at h
          show _ = ptrV (N (a, b) ((k : Int).toNat))
          rw [Int.toNat_natCast, h]; rfl
  · obtain rfl : b = false := by rw [hb]; exact decide_eq_false hr
    rw [if_neg hr]
    clear hb hr H
    obtain ⟨⟨a, b⟩, L⟩ := p
    go_enter Try.func51, Try.ntmps51
    go_wp2_with fail
    refine (c1.out _).mono ?_
    rintro _ w1 ⟨rfl, hb1⟩
    have hB := hid (Below.trans (b := _) ((Below.refl w.heap.size w).alloc (Nat.le_refl _) _) (hb1.mono (by simp)))
    clear hb1
    go_wp2_with fail
    go_ret
    exact ⟨rfl, hB.out⟩

/-- What a call leaves of a trie: other blocks of it are new, and no others turned. -/
def TrieNext (w : World) (g : Nat) (F : Nat → Prop) (m' : Ad → Nat → Option Int) (n' : Int) (w' : World) : Prop :=
  ∃ F' N', TrieN w' g F' N' m' n' ∧ Chg F w w' ∧ ∀ x, F' x → F x ∨ w.heap.size ≤ x
def Grown (w : World) (g : Nat) (F : Nat → Prop) (m : Ad → Nat → Option Int) (n : Int) (c : Ad) (i : Nat) (e : Ending) (w' : World) : Prop :=
  ∃ b F' N', e = .returned (.pointer (some ⟨b, 0, none⟩)) ∧ TrieN w' g F' N' m n ∧ N' c i = some b ∧ Chg F w w' ∧ ∀ x, F' x → F x ∨ w.heap.size ≤ x
def GrowLoop (w : World) (g : Nat) (F : Nat → Prop) (m : Ad → Nat → Option Int) (n : Int) (p : Ad) (L : Nat) (x i : Value) (wr : World) : Prop :=
  ∃ (k q : Nat) (F' : Nat → Prop) (N' : Ad → Nat → Option Nat), k ≤ L ∧ i = .int .i64 k ∧ x = .pointer (some ⟨q, 0, none⟩) ∧ TrieN wr g F' N' m n ∧ N' (p.cut k) k = some q ∧
    Blk wr w.heap.size 51 [.int .u64 (p.1 : Int), .int .u64 (p.2 : Int), .int .i64 (L : Int)] ∧ Chg F w wr ∧ ∀ y, F' y → F y ∨ w.heap.size < y

theorem trie_grow {w : World} {g : Nat} {F : Nat → Prop} {N : Ad → Nat → Option Nat} {m : Ad → Nat → Option Int} {n : Int} (H : TrieN w g F N m n) (p : Pf) (hp : p.1.ok) (hr : p.right) :
    Calls Try.prog 51 #[.pointer (some ⟨g, 0, none⟩), .agg #[.int .u64 (p.1.1 : Int), .int .u64 (p.1.2 : Int), .int .i64 p.2], .bool true] w (Grown w g F m n p.1 p.2.toNat) := by
  have c1 := hid fun w => addr_right p.1 hp p.2 true (decide_eq_true hr).symm w
  have h0 := hr.1
  have h1 := hr.2.1
  have hcut := hr.2.2
  obtain ⟨⟨a, b⟩, L⟩ := p
  obtain ⟨L, rfl⟩ := Int.eq_ofNat_of_zero_le h0
  have HCUT := hid hcut
  have HP := hid hp
  have HT := hid H
  have HFL := hid (fun x hx => H.lt x hx)
  have c2 := hid fun k w => addr_bitN (a, b) hp k _ rfl w
  have h128 : L ≤ 128 := by simp at h1; omega
  clear hr hcut H hp h0 h1
  go_enter Try.func51, Try.ntmps51
  go_wp2_with fail
  refine (c1.out _).mono ?_
  rintro _ w1 ⟨rfl, hb1⟩
  have hB := hid (Below.trans (b := _) ((Below.refl w.heap.size w).alloc (Nat.le_refl _) _) (hb1.mono (by simp)))
  have hX := hid ((Blk.new_at w #[.int .u64 (a : Int), .int .u64 (b : Int), .int .i64 (L : Int)] 51 w.heap.size rfl).below' hb1)
  clear hb1
  go_wp2_with fail
  go_loopw [7, 8] (fun x i wr => GrowLoop w g F m n (a, b) L x i wr) (fun _ i _ => L - (intOf i).toNat)
  case atStart =>
    refine ⟨0, g, F, N, Nat.zero_le _, rfl, rfl, HT.out.below hB.out, ?_, hX.out, Chg.of_below hB.out F, fun y hy => .inl hy⟩
    rw [cut_none HP.out, HT.out.root]
  case round =>
    clear hX hB HT
    obtain ⟨k, q, F', N', hk, rfl, rfl, hT, hN, hX, hC, hF⟩ := hrel
    have x0 := hX.cellv (i := 0) rfl
    have x1 := hX.cellv (i := 1) rfl
    have x2 := hX.cellv (i := 2) rfl
    by_cases hlt : k < L
    · have hkid := hid (hT.kid HP.out (show k < 128 by omega) hN)
      have hnd := hT.node _ _ _ (Kok.of_cut HP.out (show k ≤ 128 by omega)) hN
      have hq := hid (hT.lt q hnd.1)
      have HND := hid hnd
      have hbl := Ad.bit_le (a, b) k
      have cb := hid (c2.out k)
      have HX := hid hX
      have HC := hid hC
      have HF := hid hF
      have HN := hid hN
      have HT := hid hT
      clear hN hX hC hF hT hnd
      generalize hbit : Ad.bit (a, b) k = bit at hkid cb hbl
      have HBIT := hid hbit
      have hc0 : (0 : Int) ≤ (bit : Int) := by omega
      have hc1 : (bit : Int) < 2 := by omega
      clear hbit
      go_wp2_with fail
      refine wp_region_later (fun w' => w'.cell? ⟨w.heap.size, 0, none⟩ = some (.int .u64 (a : Int)) ∧ w'.cell? ⟨w.heap.size, 1, none⟩ = some (.int .u64 (b : Int)))
        (fun x => ⟨x.cell x0, x.cell x1⟩) (by kernel_rfl) (by kernel_rfl) (fun HS => ?_)
      repeat (go_big_quiet_step (with_reducible exact Later.calls _ (cb.out _)))
      refine wpQuiet_nil ?_
      rintro w4 ⟨⟨_, hb4⟩, rfl⟩
      have hkc := (hb4.cell (p := ⟨q, 2 + bit, none⟩) hq.out).trans hkid.out
      have hkf := (HND.out.2.below' hb4).frozen (2 + bit)
      have hql := Nat.lt_of_lt_of_le hq.out hb4.size
      have HT4 := hid (HT.out.below hb4)
      have HX4 := hid (HX.out.below' hb4)
      have HC4 := hid (HC.out.trans' (Chg.of_below hb4 F))
      clear HS hb4 HX HC hkid x0 x1 x2 HT HND hq
      cases hN2 : N' (Ad.cut (a, b) (k + 1)) (k + 1) with
      | none =>
        rw [hN2] at hkc
        have HN2 := hid hN2
        clear hN2
        unfold ptrV at hkc
        have HL := hid HX4.out.lt
        go_wp2_with fail
        go_roundw
        case rel =>
          have hg := HT4.out.grow HP.out (show k < 128 by omega) HN.out HN2.out
          rw [HBIT.out, World.setCell_alloc_past _ _ _ _ hql] at hg
          refine ⟨k + 1, w4.heap.size, _, _, by omega, by go_num, rfl, hg, updN_same _ _ _ _, ?_, ?_, ?_⟩
          · refine (HX4.out.set_ne ?_ _).alloc _
            intro e
            have h1 := HF.out q (HT4.out.node _ _ _ (Kok.of_cut HP.out (show k ≤ 128 by omega)) HN.out).1
            rcases h1 with h1 | h1
            · have := HFL.out q h1; simp at e; omega
            · simp at e; omega
          · refine (HC4.out.setCell (fun h => ?_) _).alloc _
            have h1 := HF.out q (HT4.out.node _ _ _ (Kok.of_cut HP.out (show k ≤ 128 by omega)) HN.out).1
            rcases h1 with h1 | h1
            · exact h1
            · simp at h; omega
          · intro y hy
            rcases hy with hy | hy
            · exact HF.out y hy
            · right; have := HL.out; omega
        case measure => simp [intOf]; omega
      | some q2 =>
        rw [hN2] at hkc
        have HN2 := hid hN2
        clear hN2
        unfold ptrV at hkc
        go_wp2_with fail
        go_roundw
        case rel => exact ⟨k + 1, q2, F', N', by omega, by go_num, rfl, HT4.out, HN2.out, HX4.out, HC4.out, HF.out⟩
        case measure => simp [intOf]; omega
    · obtain rfl : k = L := by omega
      have HE := hid (show Ad.cut (a, b) k = (a, b) by simpa using HCUT.out)
      have HC := hid hC
      have HF := hid hF
      have HN := hid hN
      have HT := hid hT
      clear hX hC hF hN hT hlt hk
      go_wp2_with fail
      go_ret
      refine ⟨q, F', N', rfl, HT.out, ?_, HC.out, fun x hx => (HF.out x hx).imp id Nat.le_of_lt⟩
      have h := HN.out
      rw [HE.out] at h
      show N' (a, b) ((k : Int).toNat) = some q
      rw [Int.toNat_natCast, h]

theorem trie_grow_no {w : World} {g : Nat} (p : Pf) (hp : p.1.ok) (hr : ¬ p.right) :
    Calls Try.prog 51 #[.pointer (some ⟨g, 0, none⟩), .agg #[.int .u64 (p.1.1 : Int), .int .u64 (p.1.2 : Int), .int .i64 p.2], .bool true] w fun e w' => e = .returned (.pointer none) ∧ Below w.heap.size w w' := by
  have c1 := hid fun w => addr_right p.1 hp p.2 false (decide_eq_false hr).symm w
  clear hr
  obtain ⟨⟨a, b⟩, L⟩ := p
  go_enter Try.func51, Try.ntmps51
  go_wp2_with fail
  refine (c1.out _).mono ?_
  rintro _ w1 ⟨rfl, hb1⟩
  have hB := hid (Below.trans (b := _) ((Below.refl w.heap.size w).alloc (Nat.le_refl _) _) (hb1.mono (by simp)))
  clear hb1
  go_wp2_with fail
  go_ret
  exact ⟨rfl, hB.out⟩

end Go.Proofs.Ytcnecjjgnnkjkaa

namespace Go.Proofs.Ytcnecjjgnnkjkaa
open Go.RowKit
set_option linter.unusedVariables false
set_option linter.unusedSimpArgs false
set_option maxRecDepth 100000

theorem Kok.of_right {p : Pf} (hp : p.1.ok) (hr : p.right) : Kok p.1 p.2.toNat := ⟨hp, hr.2.2, by have := hr.2.1; have := hr.1; omega⟩
def getV (m : Ad → Nat → Option Int) (p : Pf) : Option Int := if p.right then m p.1 p.2.toNat else none

def PutPost (w : World) (g : Nat) (F : Nat → Prop) (m : Ad → Nat → Option Int) (n : Int) (c : Ad) (L : Nat) (hop : Int) (e : Ending) (w' : World) : Prop :=
  e = .returned (.tuple #[.int .i64 ((m c L).getD 0), .bool (m c L).isSome]) ∧ TrieNext w g F (updN m c L (some hop)) (if (m c L).isSome then n else n + 1) w'
section
variable {w w1 : World} {g q : Nat} {F F' : Nat → Prop} {N' : Ad → Nat → Option Nat} {m : Ad → Nat → Option Int} {n : Int} {c : Ad} {L : Nat} {o : Obj}
theorem put_none (HT : TrieN w1 g F' N' m n) (HN : N' c L = some q) (HK : Kok c L) (HG : F g) (HC : Chg F (w.alloc o) w1) (HF : ∀ x, F' x → F x ∨ (w.alloc o).heap.size ≤ x) (hm : m c L = none) (hop : Int) (k : Nat) :
    PutPost w g F m n c L hop (.returned (.tuple #[.int .i64 0, .bool false])) ((((w1.drewN k).setCell ⟨g, 4, none⟩ (.int .i64 (n + 1))).setCell ⟨q, 1, none⟩ (.int .i64 hop)).setCell ⟨q, 0, none⟩ (.bool true)) := by
  have hq : ∀ (h : q < w.heap.size), F q := fun h => (HF q (HT.node _ _ _ HK HN).1).resolve_right (by simp; omega)
  refine ⟨by rw [hm]; rfl, F', N', ?_, ?_, fun x hx => (HF x hx).imp id fun h => by simp at h; omega⟩
  · rw [hm]; exact ((HT.drewN k).setn (n + 1)).set HK HN (some hop)
  · exact ((((((Chg.refl F w).alloc o).trans' HC).drewN k).setCell (fun _ => HG) _).setCell hq _).setCell hq _
theorem put_some (HT : TrieN w1 g F' N' m n) (HN : N' c L = some q) (HK : Kok c L) (HC : Chg F (w.alloc o) w1) (HF : ∀ x, F' x → F x ∨ (w.alloc o).heap.size ≤ x) {h : Int} (hm : m c L = some h) (hop : Int) (k : Nat) :
    PutPost w g F m n c L hop (.returned (.tuple #[.int .i64 h, .bool true])) (((w1.drewN k).setCell ⟨q, 1, none⟩ (.int .i64 hop)).setCell ⟨q, 0, none⟩ (.bool true)) := by
  have hq : ∀ (h : q < w.heap.size), F q := fun h => (HF q (HT.node _ _ _ HK HN).1).resolve_right (by simp; omega)
  refine ⟨by rw [hm]; rfl, F', N', ?_, ?_, fun x hx => (HF x hx).imp id fun h => by simp at h; omega⟩
  · rw [hm]; exact (HT.drewN k).set HK HN (some hop)
  · exact ((((Chg.refl F w).alloc o).trans' HC).drewN k).setCell hq _ |>.setCell hq _
end
theorem trie_put_yes {w : World} {g : Nat} {F : Nat → Prop} {N : Ad → Nat → Option Nat} {m : Ad → Nat → Option Int} {n : Int} (H : TrieN w g F N m n) (h0 : 0 ≤ n) (h1 : n ≤ 4611686018427387904) (p : Pf) (hp : p.1.ok) (hop : Int) (hr : p.right) :
    Calls Try.prog 55 #[.pointer (some ⟨g, 0, none⟩), .agg #[.int .u64 (p.1.1 : Int), .int .u64 (p.1.2 : Int), .int .i64 p.2], .int .i64 hop] w (PutPost w g F m n p.1 p.2.toNat hop) := by
  have c1 := hid (trie_grow (H.below ((Below.refl w.heap.size w).alloc (Nat.le_refl _) (.cells #[.int .u64 (p.1.1 : Int), .int .u64 (p.1.2 : Int), .int .i64 p.2] 51))) p hp hr)
  have HK := hid (Kok.of_right hp hr)
  have HF := hid (fun x hx => H.lt x hx)
  have HG := hid H.rootF
  generalize hL : p.2.toNat = L at HK c1 ⊢
  clear hL H hr hp
  obtain ⟨⟨a, b⟩, i⟩ := p
  go_enter Try.func55, Try.ntmps55
  go_wp2_with fail
  refine c1.out.mono ?_
  rintro _ w1 ⟨q, F', N', rfl, hT, hN, hC, hF'⟩
  have HT := hid hT
  have HN := hid hN
  have HC := hid hC
  have HF' := hid hF'
  have hB := (hT.node _ _ _ HK.out hN).2
  obtain ⟨v0, l0, r0, hTop⟩ := hT.top
  have f0 := hB.frozen 0
  have f1 := hB.frozen 1
  have x0 := hB.cellv (i := 0) rfl
  have x1 := hB.cellv (i := 1) rfl
  have y4 := hTop.cellv (i := 4) rfl
  have g4 := hTop.frozen 4
  clear hT hN hC hF' hB hTop
  generalize hm : m (a, b) L = v at x0 x1
  have HM := hid hm
  clear hm
  have hbg : q = g ∨ q ≠ g := by omega
  rcases hbg with rfl | hbg <;> cases v
  all_goals
    simp only [Option.isSome_none, Option.isSome_some, Option.getD_none, Option.getD_some] at x0 x1
    go_wp2_with fail
    go_quiet (fail)
    go_wp2_with fail
    go_ret2
    first
      | exact put_none HT.out HN.out HK.out HG.out HC.out HF'.out HM.out _ _
      | exact put_some HT.out HN.out HK.out HC.out HF'.out HM.out _ _

theorem trie_put_no {w : World} {g : Nat} (p : Pf) (hp : p.1.ok) (hop : Int) (hr : ¬ p.right) :
    Calls Try.prog 55 #[.pointer (some ⟨g, 0, none⟩), .agg #[.int .u64 (p.1.1 : Int), .int .u64 (p.1.2 : Int), .int .i64 p.2], .int .i64 hop] w fun e w' => e = .returned (.tuple #[.int .i64 0, .bool false]) ∧ Below w.heap.size w w' := by
  have c1 := hid fun w => trie_grow_no (w := w) (g := g) p hp hr
  clear hr hp
  obtain ⟨⟨a, b⟩, i⟩ := p
  go_enter Try.func55, Try.ntmps55
  go_wp2_with fail
  refine (c1.out _).mono ?_
  rintro _ w1 ⟨rfl, hb1⟩
  have hB := hid (Below.trans (b := _) ((Below.refl w.heap.size w).alloc (Nat.le_refl _) _) (hb1.mono (by simp)))
  clear hb1
  go_wp2_with fail
  go_ret2
  exact ⟨rfl, hB.out⟩

def GetPost (w : World) (v : Option Int) (e : Ending) (w' : World) : Prop := e = .returned (.tuple #[.int .i64 (v.getD 0), .bool v.isSome]) ∧ Below w.heap.size w w'
theorem trie_get {w : World} {g : Nat} {F : Nat → Prop} {N : Ad → Nat → Option Nat} {m : Ad → Nat → Option Int} {n : Int} (H : TrieN w g F N m n) (p : Pf) (hp : p.1.ok) :
    Calls Try.prog 36 #[.pointer (some ⟨g, 0, none⟩), .agg #[.int .u64 (p.1.1 : Int), .int .u64 (p.1.2 : Int), .int .i64 p.2]] w (GetPost w (getV m p)) := by
  have c1 := hid (trie_find (H.below ((Below.refl w.heap.size w).alloc (Nat.le_refl _) (.cells #[.int .u64 (p.1.1 : Int), .int .u64 (p.1.2 : Int), .int .i64 p.2] 51))) p hp)
  obtain ⟨q, hq⟩ : ∃ q, (if p.right then N p.1 p.2.toNat else none) = q := ⟨_, rfl⟩
  obtain ⟨v, hv⟩ : ∃ v, v = getV m p := ⟨_, rfl⟩
  rw [hq] at c1
  rw [← hv]
  have hfact : q = none ∧ v = none ∨ ∃ b, q = some b ∧ w.cell? ⟨b, 0, none⟩ = some (.bool v.isSome) ∧ w.cell? ⟨b, 1, none⟩ = some (.int .i64 (v.getD 0)) := by
    unfold getV at hv
    by_cases hr : p.right
    · rw [if_pos hr] at hq hv
      cases hN : N p.1 p.2.toNat with
      | none => left; rw [← hq, hN, hv]; exact ⟨rfl, H.val _ _ (Kok.of_right hp hr) hN⟩
      | some b =>
        right
        have hB := (H.node _ _ _ (Kok.of_right hp hr) hN).2
        refine ⟨b, by rw [← hq, hN], ?_, ?_⟩
        · rw [hv]; exact hB.cellv (i := 0) rfl
        · rw [hv]; exact hB.cellv (i := 1) rfl
    · rw [if_neg hr] at hq hv; left; exact ⟨hq.symm, hv⟩
  clear hq hv H hp
  obtain ⟨⟨a, b⟩, i⟩ := p
  rcases hfact with ⟨rfl, rfl⟩ | ⟨q, rfl, x0, x1⟩
  · go_enter Try.func36, Try.ntmps36
    go_wp2_with fail
    refine c1.out.mono ?_
    rintro _ w1 ⟨rfl, hb1⟩
    have hB := hid (Below.trans (b := _) ((Below.refl w.heap.size w).alloc (Nat.le_refl _) _) (hb1.mono (by simp)))
    clear hb1
    unfold ptrV
    go_wp2_with fail
    go_ret2
    exact ⟨rfl, hB.out⟩
  · cases v
    all_goals
      simp only [Option.isSome_none, Option.isSome_some, Option.getD_none, Option.getD_some] at x0 x1
      go_enter Try.func36, Try.ntmps36
      go_wp2_with fail
      refine c1.out.mono ?_
      rintro _ w1 ⟨rfl, hb1⟩
      have hB := (Below.trans (b := _) ((Below.refl w.heap.size w).alloc (Nat.le_refl _) _) (hb1.mono (by simp)))
      have x0 := (hB.cell (p := ⟨q, 0, none⟩) (World.block_lt_of_cell? w _ x0)).trans x0
      have x1 := (hB.cell (p := ⟨q, 1, none⟩) (World.block_lt_of_cell? w _ x1)).trans x1
      have HB := hid hB
      clear hb1 hB
      unfold ptrV
      go_wp2_with fail
      go_ret2
      exact ⟨rfl, HB.out⟩

theorem trie_len {w : World} {g : Nat} {F : Nat → Prop} {N : Ad → Nat → Option Nat} {m : Ad → Nat → Option Int} {n : Int} (H : TrieN w g F N m n) :
    Calls Try.prog 48 #[.pointer (some ⟨g, 0, none⟩)] w fun e w' => e = .returned (.int .i64 n) ∧ w = w' := by
  obtain ⟨v0, l0, r0, hTop⟩ := H.top
  have y4 := hTop.cellv (i := 4) rfl
  clear H hTop
  go_enter Try.func48, Try.ntmps48
  go_wp2_with fail
  go_ret
  exact ⟨rfl, rfl⟩

/-- What Delete leaves. -/
def DelPost (w : World) (g : Nat) (F : Nat → Prop) (m : Ad → Nat → Option Int) (n : Int) (p : Pf) (e : Ending) (w' : World) : Prop :=
  e = .returned (.tuple #[.int .i64 ((getV m p).getD 0), .bool (getV m p).isSome]) ∧ TrieNext w g F (if (getV m p).isSome then updN m p.1 p.2.toNat none else m) (if (getV m p).isSome then n - 1 else n) w'
theorem TrieNext.same {w w' : World} {g : Nat} {F : Nat → Prop} {N : Ad → Nat → Option Nat} {m : Ad → Nat → Option Int} {n : Int} (H : TrieN w g F N m n) (hb : Below w.heap.size w w') : TrieNext w g F m n w' :=
  ⟨F, N, H.below hb, Chg.of_below hb F, fun x hx => .inl hx⟩
theorem del_none {w w' : World} {g : Nat} {F : Nat → Prop} {N : Ad → Nat → Option Nat} {m : Ad → Nat → Option Int} {n : Int} (H : TrieN w g F N m n) (hb : Below w.heap.size w w') {p : Pf} (hv : getV m p = none) :
    DelPost w g F m n p (.returned (.tuple #[.int .i64 0, .bool false])) w' := by
  unfold DelPost; rw [hv]; exact ⟨rfl, TrieNext.same H hb⟩
theorem del_some {w w1 : World} {g q : Nat} {F : Nat → Prop} {N : Ad → Nat → Option Nat} {m : Ad → Nat → Option Int} {n : Int} (H : TrieN w g F N m n) (hb : Below w.heap.size w w1) {p : Pf} (hp : p.1.ok) (hr : p.right) (hN : N p.1 p.2.toNat = some q) {h : Int} (hv : getV m p = some h) :
    DelPost w g F m n p (.returned (.tuple #[.int .i64 h, .bool true])) (((w1.setCell ⟨q, 1, none⟩ (.int .i64 0)).setCell ⟨q, 0, none⟩ (.bool false)).setCell ⟨g, 4, none⟩ (.int .i64 (n - 1))) := by
  unfold DelPost; rw [hv]
  refine ⟨rfl, F, N, ?_, ?_, fun x hx => .inl hx⟩
  · exact ((H.below hb).set (Kok.of_right hp hr) hN none).setn (n - 1)
  · exact (((Chg.of_below hb F).setCell (fun _ => (H.node _ _ _ (Kok.of_right hp hr) hN).1) _).setCell (fun _ => (H.node _ _ _ (Kok.of_right hp hr) hN).1) _).setCell (fun _ => H.rootF) _

theorem trie_delete {w : World} {g : Nat} {F : Nat → Prop} {N : Ad → Nat → Option Nat} {m : Ad → Nat → Option Int} {n : Int} (H : TrieN w g F N m n) (h0 : 0 ≤ n) (h1 : n ≤ 4611686018427387904) (p : Pf) (hp : p.1.ok) :
    Calls Try.prog 53 #[.pointer (some ⟨g, 0, none⟩), .agg #[.int .u64 (p.1.1 : Int), .int .u64 (p.1.2 : Int), .int .i64 p.2]] w (DelPost w g F m n p) := by
  have c1 := hid (trie_find (H.below ((Below.refl w.heap.size w).alloc (Nat.le_refl _) (.cells #[.int .u64 (p.1.1 : Int), .int .u64 (p.1.2 : Int), .int .i64 p.2] 51))) p hp)
  obtain ⟨q, hq⟩ : ∃ q, (if p.right then N p.1 p.2.toNat else none) = q := ⟨_, rfl⟩
  obtain ⟨v, hv⟩ : ∃ v, v = getV m p := ⟨_, rfl⟩
  rw [hq] at c1
  have hfact : q = none ∧ v = none ∨ ∃ b, q = some b ∧ p.right ∧ N p.1 p.2.toNat = some b ∧ w.cell? ⟨b, 0, none⟩ = some (.bool v.isSome) ∧ w.cell? ⟨b, 1, none⟩ = some (.int .i64 (v.getD 0)) ∧ w.frozen? ⟨b, 0, none⟩ = false ∧ w.frozen? ⟨b, 1, none⟩ = false := by
    unfold getV at hv
    by_cases hr : p.right
    · rw [if_pos hr] at hq hv
      cases hN : N p.1 p.2.toNat with
      | none => left; rw [← hq, hN, hv]; exact ⟨rfl, H.val _ _ (Kok.of_right hp hr) hN⟩
      | some b =>
        right
        have hB := (H.node _ _ _ (Kok.of_right hp hr) hN).2
        refine ⟨b, by rw [← hq, hN], hr, rfl, ?_, ?_, hB.frozen 0, hB.frozen 1⟩
        · rw [hv]; exact hB.cellv (i := 0) rfl
        · rw [hv]; exact hB.cellv (i := 1) rfl
    · rw [if_neg hr] at hq hv; left; exact ⟨hq.symm, hv⟩
  obtain ⟨v0, l0, r0, hTop⟩ := H.top
  have y4 := hTop.cellv (i := 4) rfl
  have g4 := hTop.frozen 4
  have HT := hid H
  have HP := hid hp
  have HV := hid hv.symm
  clear hq hv H hp hTop
  obtain ⟨⟨a, b⟩, i⟩ := p
  rcases hfact with ⟨rfl, rfl⟩ | ⟨q, rfl, hr, hN, x0, x1, f0, f1⟩
  · go_enter Try.func53, Try.ntmps53
    go_wp2_with fail
    refine c1.out.mono ?_
    rintro _ w1 ⟨rfl, hb1⟩
    have hB := hid (Below.trans (b := _) ((Below.refl w.heap.size w).alloc (Nat.le_refl _) _) (hb1.mono (by simp)))
    clear hb1
    unfold ptrV
    go_wp2_with fail
    go_ret2
    exact del_none HT.out hB.out HV.out
  · have HR := hid hr
    have HN := hid hN
    clear hr hN
    have hbg : q = g ∨ q ≠ g := by omega
    rcases hbg with rfl | hbg <;> cases v
    all_goals
      simp only [Option.isSome_none, Option.isSome_some, Option.getD_none, Option.getD_some] at x0 x1
      go_enter Try.func53, Try.ntmps53
      go_wp2_with fail
      refine c1.out.mono ?_
      rintro _ w1 ⟨rfl, hb1⟩
      have hB := (Below.trans (b := _) ((Below.refl w.heap.size w).alloc (Nat.le_refl _) _) (hb1.mono (by simp)))
      have x0 := (hB.cell (p := ⟨q, 0, none⟩) (World.block_lt_of_cell? w _ x0)).trans x0
      have x1' := (hB.cell (p := ⟨q, 1, none⟩) (World.block_lt_of_cell? w _ x1)).trans x1
      have hql : q < w.heap.size := World.block_lt_of_cell? w ⟨q, 1, none⟩ x1
      have f0' := (hB.frozen (p := ⟨q, 0, none⟩) hql).trans f0
      have f1' := (hB.frozen (p := ⟨q, 1, none⟩) (World.block_lt_of_cell? w _ x1)).trans f1
      have y4' := (hB.cell (p := ⟨_, 4, none⟩) (World.block_lt_of_cell? w _ y4)).trans y4
      have g4' := (hB.frozen (p := ⟨_, 4, none⟩) (World.block_lt_of_cell? w _ y4)).trans g4
      have HB := hid hB
      clear hb1 hB x1 f0 f1 y4 g4
      unfold ptrV
      go_wp2_with fail
      go_ret2
      first
        | exact del_none HT.out HB.out HV.out
        | exact del_some HT.out HB.out HP.out HR.out HN.out HV.out

end Go.Proofs.Ytcnecjjgnnkjkaa

namespace Go.Proofs.Ytcnecjjgnnkjkaa
open Go.RowKit
set_option linter.unusedVariables false
set_option linter.unusedSimpArgs false
set_option maxRecDepth 100000
attribute [local go_sem high] eq_ad eq_pf eq_rt

theorem cell_set_ne (w : World) (a b : Addr) (v : Value) (h : a.block ≠ b.block) : (w.setCell b v).cell? a = w.cell? a := World.cell?_of_block (Below.heap_setCell _ _ _ _ h)
/-- Of the first k lengths the greatest, above low, that has a value. -/
def bestT (m : Ad → Nat → Option Int) (a : Ad) (low : Int) : Nat → Option (Nat × Int)
  | 0 => none
  | k + 1 => if low < (k : Int) then (match m (a.cut k) k with | some h => some (k, h) | none => bestT m a low k) else bestT m a low k
theorem bestT_lt {m : Ad → Nat → Option Int} {a : Ad} {low : Int} : ∀ {k i : Nat} {h : Int}, bestT m a low k = some (i, h) → i < k ∧ low < (i : Int) ∧ m (a.cut i) i = some h
  | 0, i, h, e => by simp [bestT] at e
  | k + 1, i, h, e => by
    unfold bestT at e
    by_cases h1 : low < (k : Int)
    · rw [if_pos h1] at e
      cases h2 : m (a.cut k) k with
      | some h' =>
        rw [h2] at e
        injection e with e
        injection e with e1 e2
        subst e1 e2
        exact ⟨by omega, h1, h2⟩
      | none => rw [h2] at e; have := bestT_lt e; exact ⟨by omega, this.2⟩
    · rw [if_neg h1] at e; have := bestT_lt e; exact ⟨by omega, this.2⟩
theorem bestT_none {m : Ad → Nat → Option Int} {a : Ad} {low : Int} {k : Nat} : ∀ {K : Nat}, k ≤ K → (∀ j, k ≤ j → j < K → m (a.cut j) j = none) → bestT m a low K = bestT m a low k
  | 0, hk, _ => by obtain rfl : k = 0 := by omega
                   rfl
  | K + 1, hk, h => by
    by_cases e : k = K + 1
    · rw [e]
    · rw [bestT, h K (by omega) (by omega)]
      simp only
      rw [bestT_none (show k ≤ K by omega) (fun j h1 h2 => h j h1 (by omega))]
      split <;> rfl
def btK (high : Int) : Nat := (min high 128 + 1).toNat
def btR (a : Ad) : Option (Nat × Int) → Rt
  | none => (((0, 0), 0), 0)
  | some (i, h) => ((a.cut i, (i : Int)), h)
/-- The pair that such a search hands back. -/
def rtPair (r : Rt) (b : Bool) : Value := .tuple #[.agg #[.int .u64 (r.1.1.1 : Int), .int .u64 (r.1.1.2 : Int), .int .i64 r.1.2, .int .i64 r.2], .bool b]
def BetPost (w : World) (a : Ad) (v : Option (Nat × Int)) (e : Ending) (w' : World) : Prop := e = .returned (rtPair (btR a v) v.isSome) ∧ Below w.heap.size w w'

def BetLoop (w : World) (p : Ad) (N : Ad → Nat → Option Nat) (m : Ad → Nat → Option Int) (low high : Int) (fo x i : Value) (wr : World) : Prop :=
  ∃ k : Nat, k ≤ 128 ∧ (k = 0 ∨ (k : Int) ≤ high + 1) ∧ i = .int .i64 k ∧ x = ptrV (N (p.cut k) k) ∧ fo = .bool (bestT m p low k).isSome ∧
    Blk wr w.heap.size 49 [.int .u64 (p.1 : Int), .int .u64 (p.2 : Int)] ∧ Blk wr (w.heap.size + 1) 87 [.int .u64 0, .int .u64 0, .int .i64 0, .int .i64 0] ∧
    Blk wr (w.heap.size + 2) 87 (rtEn (btR p (bestT m p low k))) ∧ Below w.heap.size w wr

theorem bt_nil {w : World} {g : Nat} {F : Nat → Prop} {N : Ad → Nat → Option Nat} {m : Ad → Nat → Option Int} {n : Int} (H : TrieN w g F N m n) {a : Ad} (ha : a.ok) {k : Nat} (hN : N (a.cut k) k = none) (low : Int) {high : Int} (hk : k = 0 ∨ (k : Int) ≤ high + 1) (h128 : k ≤ 128) :
    bestT m a low (btK high) = bestT m a low k := by
  by_cases h0 : k ≤ btK high
  · refine bestT_none h0 fun j h1 h2 => ?_
    have hj : j ≤ 128 := by unfold btK at h2; omega
    exact H.val _ _ (Kok.of_cut ha hj) (H.none_below ha hN j h1 hj)
  · unfold btK at h0; omega

/-- What Cover tells: nothing of what is no prefix. -/
def coverT (m : Ad → Nat → Option Int) (p : Pf) (low high : Int) : Option (Nat × Int) := if p.right then bestT m p.1 low (btK (min high p.2)) else none
/-- The same with the answer written out. -/
theorem BetPost.out {w w' : World} {a : Ad} {v : Option (Nat × Int)} {e : Ending} {r : Rt} {f : Bool} (h : BetPost w a v e w') (hr : btR a v = r) (hf : v.isSome = f) :
    e = .returned (.tuple #[.agg #[.int .u64 (r.1.1.1 : Int), .int .u64 (r.1.1.2 : Int), .int .i64 r.1.2, .int .i64 r.2], .bool f]) ∧ Below w.heap.size w w' := by
  subst hr hf; exact h
end Go.Proofs.Ytcnecjjgnnkjkaa

namespace Go.Proofs.Ytcnecjjgnnkjkaa
open Go.RowKit
set_option linter.unusedVariables false
set_option linter.unusedSimpArgs false
set_option maxRecDepth 100000
attribute [local go_sem high] eq_ad eq_pf eq_rt

def putM (m : Ad → Nat → Option Int) (p : Pf) (hop : Int) : Ad → Nat → Option Int := if p.right then updN m p.1 p.2.toNat (some hop) else m
def putC (m : Ad → Nat → Option Int) (p : Pf) (n : Int) : Int := if p.right then (if (m p.1 p.2.toNat).isSome then n else n + 1) else n
theorem putC_le (m : Ad → Nat → Option Int) (p : Pf) (n : Int) : n ≤ putC m p n ∧ putC m p n ≤ n + 1 := by unfold putC; split <;> (try split) <;> omega
def PutAll (w : World) (g : Nat) (F : Nat → Prop) (m : Ad → Nat → Option Int) (n : Int) (p : Pf) (hop : Int) (e : Ending) (w' : World) : Prop :=
  e = .returned (.tuple #[.int .i64 ((getV m p).getD 0), .bool (getV m p).isSome]) ∧ TrieNext w g F (putM m p hop) (putC m p n) w'
theorem trie_put {w : World} {g : Nat} {F : Nat → Prop} {N : Ad → Nat → Option Nat} {m : Ad → Nat → Option Int} {n : Int} (H : TrieN w g F N m n) (h0 : 0 ≤ n) (h1 : n ≤ 4611686018427387904) (p : Pf) (hp : p.1.ok) (hop : Int) :
    Calls Try.prog 55 #[.pointer (some ⟨g, 0, none⟩), .agg #[.int .u64 (p.1.1 : Int), .int .u64 (p.1.2 : Int), .int .i64 p.2], .int .i64 hop] w (PutAll w g F m n p hop) := by
  by_cases hr : p.right
  · refine (trie_put_yes H h0 h1 p hp hop hr).mono fun e w' ⟨he, hn⟩ => ?_
    unfold PutAll getV putM putC
    rw [if_pos hr, if_pos hr, if_pos hr]
    exact ⟨he, hn⟩
  · refine (trie_put_no p hp hop hr).mono fun e w' ⟨he, hb⟩ => ?_
    unfold PutAll getV putM putC
    rw [if_neg hr, if_neg hr, if_neg hr]
    exact ⟨he, TrieNext.same H hb⟩

theorem bestT_all {m : Ad → Nat → Option Int} {a : Ad} {low : Int} : ∀ {K : Nat}, bestT m a low K = none → ∀ k, k < K → low < (k : Int) → m (a.cut k) k = none
  | 0, _, k, hk, _ => by omega
  | K + 1, e, k, hk, hl => by
    unfold bestT at e
    by_cases h1 : low < (K : Int)
    · rw [if_pos h1] at e
      cases h2 : m (a.cut K) K with
      | some h => rw [h2] at e; cases e
      | none =>
        rw [h2] at e
        by_cases h3 : k = K
        · subst h3; exact h2
        · exact bestT_all e k (by omega) hl
    · rw [if_neg h1] at e; exact bestT_all e k (by omega) hl
theorem bestT_lower {m : Ad → Nat → Option Int} {a : Ad} {low mid : Int} (h : low ≤ mid) {x : Nat × Int} : ∀ {K : Nat}, bestT m a mid K = some x → bestT m a low K = some x
  | 0, e => by simp [bestT] at e
  | K + 1, e => by
    unfold bestT at e ⊢
    by_cases h1 : mid < (K : Int)
    · rw [if_pos h1] at e
      rw [if_pos (by omega)]
      cases h2 : m (a.cut K) K with
      | some h' => rw [h2] at e; exact e
      | none => rw [h2] at e; exact bestT_lower h e
    · rw [if_neg h1] at e
      have e' := bestT_lt e
      omega
theorem bestT_ext {m : Ad → Nat → Option Int} {a : Ad} {low : Int} {k : Nat} : ∀ {K : Nat}, k ≤ K → (∀ j, k ≤ j → j < K → low < (j : Int) → m (a.cut j) j = none) → bestT m a low K = bestT m a low k
  | 0, hk, _ => by obtain rfl : k = 0 := by omega
                   rfl
  | K + 1, hk, h => by
    by_cases e : k = K + 1
    · rw [e]
    · rw [bestT, bestT_ext (show k ≤ K by omega) (fun j h1 h2 h3 => h j h1 (by omega) h3)]
      split
      · rename_i h1; rw [h K (by omega) (by omega) h1]
      · rfl
theorem cover_split {m : Ad → Nat → Option Int} {p : Pf} {low mid high : Int} (h1 : low ≤ mid) (h2 : mid ≤ high) :
    (∃ x, coverT m p mid high = some x ∧ coverT m p low high = some x) ∨ (coverT m p mid high = none ∧ coverT m p low high = coverT m p low mid) := by
  unfold coverT
  by_cases hr : p.right
  · rw [if_pos hr, if_pos hr, if_pos hr]
    cases e : bestT m p.1 mid (btK (min high p.2)) with
    | some x => exact .inl ⟨x, rfl, bestT_lower h1 e⟩
    | none =>
      right
      refine ⟨rfl, bestT_ext (by unfold btK; omega) fun j hj1 hj2 hj3 => bestT_all e j hj2 ?_⟩
      unfold btK at hj1 hj2
      omega
  · rw [if_neg hr, if_neg hr, if_neg hr]; exact .inr ⟨rfl, rfl⟩

def CovLoop (W : World) (g : Nat) (L : Nat) (p : Pf) (i : Value) (wr : World) : Prop :=
  ∃ (k : Nat) (F : Nat → Prop) (N : Ad → Nat → Option Nat) (m : Ad → Nat → Option Int) (n : Int), k ≤ L ∧ i = .int .i64 k ∧ TrieN wr g F N m n ∧ 0 ≤ n ∧ n ≤ k ∧ (∀ x, F x → W.heap.size < x) ∧
    Blk wr W.heap.size 51 [.int .u64 (p.1.1 : Int), .int .u64 (p.1.2 : Int), .int .i64 p.2] ∧ Below W.heap.size W wr

end Go.Proofs.Ytcnecjjgnnkjkaa

namespace Go.Proofs.Ytcnecjjgnnkjkaa
open Go.RowKit
set_option linter.unusedVariables false
set_option linter.unusedSimpArgs false
set_option maxRecDepth 100000
attribute [local go_sem high] eq_ad eq_pf eq_rt

theorem and_low (x : Int) : bits .and .i64 x 1023 = x % 1024 := by
  unfold bits
  have h1 : ((BitVec.ofInt IntKind.i64.bits x) &&& (BitVec.ofInt IntKind.i64.bits 1023)).toNat = (BitVec.ofInt 64 x).toNat % 2 ^ 10 := by
    show ((BitVec.ofInt 64 x) &&& (BitVec.ofInt 64 1023)).toNat = _
    rw [BitVec.toNat_and, show (BitVec.ofInt 64 1023).toNat = 2 ^ 10 - 1 from by decide, Nat.and_two_pow_sub_one_eq_mod]
  show IntKind.i64.wrap ((((BitVec.ofInt IntKind.i64.bits x) &&& (BitVec.ofInt IntKind.i64.bits 1023)).toNat : Nat) : Int) = _
  rw [h1, BitVec.toNat_ofInt, IntKind.wrap_i64]
  omega
/-- Which lengths of one address have a route. -/
def nestM (a : Ad) (th : List Bool) : Ad → Nat → Option Int := fun c k => if c = a.cut k ∧ th.getD k false = true then some (k : Int) else none
theorem getD_set_b (th : List Bool) (n : Nat) (b : Bool) (hn : n < th.length) (k : Nat) : (th.set n b).getD k false = if k = n then b else th.getD k false := by
  simp only [List.getD_eq_getElem?_getD, List.getElem?_set]
  by_cases h : n = k
  · subst h; simp [hn]
  · rw [if_neg h, if_neg (fun e => h e.symm)]
theorem nest_set (a : Ad) (th : List Bool) (n : Nat) (b : Bool) (hn : n < th.length) : updN (nestM a th) (a.cut n) n (if b = true then some (n : Int) else none) = nestM a (th.set n b) := by
  funext c k
  unfold updN nestM
  rw [getD_set_b th n b hn]
  by_cases h : c = a.cut n ∧ k = n
  · obtain ⟨rfl, rfl⟩ := h
    rw [if_pos ⟨rfl, rfl⟩, if_pos rfl]; simp
  · rw [if_neg h]
    by_cases h2 : k = n
    · subst h2; rw [if_neg (fun e => h ⟨e.1, rfl⟩), if_neg (fun e => h ⟨e.1, rfl⟩)]
    · rw [if_neg h2]
theorem nest_same (a : Ad) (th : List Bool) (n : Nat) (hn : n < th.length) (h : th.getD n false = false) : nestM a (th.set n false) = nestM a th := by
  funext c k
  unfold nestM
  rw [getD_set_b th n false hn]
  by_cases h2 : k = n
  · subst h2; rw [if_pos rfl, h]
  · rw [if_neg h2]
theorem nest_at (a : Ad) (th : List Bool) (n : Nat) : nestM a th (a.cut n) n = if th.getD n false = true then some (n : Int) else none := by
  unfold nestM; by_cases h : th.getD n false = true
  · rw [if_pos ⟨rfl, h⟩, if_pos h]
  · rw [if_neg (fun e => h e.2), if_neg h]
/-- How many have. -/
def cntT (th : List Bool) : Int := (th.count true : Int)
theorem cntT_set (th : List Bool) (n : Nat) (b : Bool) (hn : n < th.length) : cntT (th.set n b) = cntT th - (if th.getD n false = true then 1 else 0) + (if b = true then 1 else 0) := by
  unfold cntT
  rw [List.count_set hn]
  have e : th.getD n false = th[n] := by simp [hn]
  rw [e]
  have h0 : th[n] = true → 0 < th.count true := fun h => List.count_pos_iff.2 (by rw [← h]; exact List.getElem_mem hn)
  cases hx : th[n] <;> cases b <;> simp <;> (first | omega | (have := h0 hx; omega))

theorem best_step {m : Ad → Nat → Option Int} {b : Ad} (k : Nat) : bestT m b (-1) (k + 1) = match m (b.cut k) k with | some h => some (k, h) | none => bestT m b (-1) k := by
  rw [bestT, if_pos (by omega)]
  all_goals (cases m (b.cut k) k <;> rfl)
def bI (v : Option (Nat × Int)) : Int := match v with | some (j, _) => (j : Int) | none => -1
/-- The value stands for its own length. -/
theorem nest_best {a b : Ad} {th : List Bool} {K j : Nat} {h : Int} (e : bestT (nestM a th) b (-1) K = some (j, h)) : h = (j : Int) := by
  have h3 := (bestT_lt e).2.2
  unfold nestM at h3
  split at h3
  · injection h3 with h3; exact h3.symm
  · cases h3
theorem nest_step {a b : Ad} (ha : a.ok) (hb : b.ok) {th : List Bool} {k : Nat} (hk : k ≤ a.com b) : bestT (nestM a th) b (-1) (k + 1) = if th.getD k false = true then some (k, (k : Int)) else bestT (nestM a th) b (-1) k := by
  have hI := Ad.com_is a b
  have hc : b.cut k = a.cut k := (Ad.cut_eq hb ha k (by have := hI.1; omega)).2 fun i hi => (hI.2.1 i (by omega)).symm
  rw [best_step, hc, nest_at]
  by_cases h : th.getD k false = true
  · rw [if_pos h, if_pos h]
  · rw [if_neg h, if_neg h]
theorem nest_end {a b : Ad} (ha : a.ok) (hb : b.ok) (th : List Bool) : bestT (nestM a th) b (-1) 129 = bestT (nestM a th) b (-1) (a.com b + 1) := by
  have hI := Ad.com_is a b
  refine bestT_none (by have := hI.1; omega) fun j h1 h2 => ?_
  unfold nestM
  rw [if_neg]
  rintro ⟨e, _⟩
  have := (Ad.cut_eq hb ha j (by omega)).1 e (a.com b) (by omega)
  exact hI.2.2 (by omega) this.symm

theorem nest_get {a : Ad} (ha : a.ok) (th : List Bool) (n : Nat) (hn : n ≤ 128) : getV (nestM a th) (a.cut n, (n : Int)) = if th.getD n false = true then some (n : Int) else none := by
  unfold getV
  rw [if_pos ⟨by simp, by show (n : Int) ≤ 128; omega, by show (a.cut n).cut (n : Int).toNat = a.cut n; rw [Int.toNat_natCast, Ad.cut_cut ha n n hn hn, Nat.min_self]⟩]
  show nestM a th (a.cut n) (n : Int).toNat = _
  rw [Int.toNat_natCast, nest_at]
theorem nest_del {a : Ad} (ha : a.ok) (th : List Bool) (n : Nat) (hn : n ≤ 128) (hl : th.length = 129) :
    (if (getV (nestM a th) (a.cut n, (n : Int))).isSome then updN (nestM a th) (a.cut n) (n : Int).toNat none else nestM a th) = nestM a (th.set n false) ∧
    (if (getV (nestM a th) (a.cut n, (n : Int))).isSome then cntT th - 1 else cntT th) = cntT (th.set n false) := by
  rw [nest_get ha th n hn, Int.toNat_natCast, cntT_set th n false (by omega)]
  have h0 := nest_set a th n false (by omega)
  rw [if_neg (by decide)] at h0
  by_cases h : th.getD n false = true
  · rw [if_pos h, if_pos h]; simp only [Option.isSome_some, if_true]
    exact ⟨h0, by simp⟩
  · rw [if_neg h, if_neg h]
    refine ⟨?_, by simp⟩
    rw [nest_same a th n (by omega) (by simpa using h)]; rfl
theorem nest_put {a : Ad} (ha : a.ok) (th : List Bool) (n : Nat) (hn : n ≤ 128) (hl : th.length = 129) :
    putM (nestM a th) (a.cut n, (n : Int)) (n : Int) = nestM a (th.set n true) ∧ putC (nestM a th) (a.cut n, (n : Int)) (cntT th) = cntT (th.set n true) := by
  have hr : Pf.right (a.cut n, (n : Int)) := ⟨by simp, by show (n : Int) ≤ 128; omega, by show (a.cut n).cut (n : Int).toNat = a.cut n; rw [Int.toNat_natCast, Ad.cut_cut ha n n hn hn, Nat.min_self]⟩
  have h0 := nest_set a th n true (by omega)
  rw [if_pos rfl] at h0
  unfold putM putC
  rw [if_pos hr, if_pos hr]
  show updN (nestM a th) (a.cut n) (n : Int).toNat (some (n : Int)) = _ ∧ (if (nestM a th (a.cut n) (n : Int).toNat).isSome then cntT th else cntT th + 1) = _
  rw [Int.toNat_natCast, nest_at, cntT_set th n true (by omega)]
  refine ⟨h0, ?_⟩
  by_cases h : th.getD n false = true
  · rw [if_pos h, if_pos h]; simp
  · rw [if_neg h, if_neg h]; simp
theorem nest_none (a : Ad) (n : Nat) : nestM a (List.replicate n false) = fun _ _ => none := by
  funext c k
  unfold nestM
  rw [if_neg]
  rintro ⟨_, h⟩
  have e : (List.replicate n false).getD k false = false := by
    simp only [List.getD_eq_getElem?_getD, List.getElem?_replicate]; split <;> rfl
  rw [e] at h
  cases h
theorem cntT_none (n : Nat) : cntT (List.replicate n false) = 0 := by unfold cntT; simp [List.count_replicate]
theorem cntT_le (th : List Bool) (h : th.length = 129) : 0 ≤ cntT th ∧ cntT th ≤ 129 := by
  unfold cntT; have := List.count_le_length (a := true) (l := th); omega

def bools (th : List Bool) : List Value := th.map Value.bool
theorem bools_get {th : List Bool} {i : Nat} (h : i < th.length) : (bools th)[i]? = some (.bool (th.getD i false)) := by
  simp [bools, h]
theorem bools_set (th : List Bool) (i : Nat) (b : Bool) : (bools th).set i (.bool b) = bools (th.set i b) := by simp [bools, List.map_set]

def NestLoop (W : World) (g q : Nat) (L : Nat) (a b : Ad) (i : Value) (wr : World) : Prop :=
  ∃ (k : Nat) (F : Nat → Prop) (N : Ad → Nat → Option Nat) (th : List Bool), k ≤ L ∧ i = .int .i64 k ∧ th.length = 129 ∧ TrieN wr g F N (nestM a th) (cntT th) ∧ (∀ x, F x → W.heap.size + 1 < x ∧ x ≠ q) ∧ Blk wr q 4 (bools th) ∧
    Blk wr W.heap.size 49 [.int .u64 (a.1 : Int), .int .u64 (a.2 : Int)] ∧ Blk wr (W.heap.size + 1) 49 [.int .u64 (b.1 : Int), .int .u64 (b.2 : Int)] ∧ Below W.heap.size W wr
def NestLoop2 (W : World) (g q : Nat) (a b : Ad) (th : List Bool) (be n : Value) (wr : World) : Prop :=
  ∃ (k : Nat) (F : Nat → Prop) (N : Ad → Nat → Option Nat), k ≤ a.com b + 1 ∧ n = .int .i64 k ∧ be = .int .i64 (bI (bestT (nestM a th) b (-1) k)) ∧ TrieN wr g F N (nestM a th) (cntT th) ∧ Blk wr q 4 (bools th) ∧
    Blk wr (W.heap.size + 1) 49 [.int .u64 (b.1 : Int), .int .u64 (b.2 : Int)] ∧ Below W.heap.size W wr

theorem b_row : (Try.prog.info? 4).map (fun i => (i.zero, i.size, i.bytes)) = some (some (.bool false), 1, 1) := by kernel_rfl

end Go.Proofs.Ytcnecjjgnnkjkaa

namespace Go.Proofs.Ytcnecjjgnnkjkaa
open Go.RowKit
set_option linter.unusedVariables false
set_option linter.unusedSimpArgs false

/-- What a list says of a prefix. -/
def mapOf (l : List Rt) : Ad → Nat → Option Int := fun c k => (l.find? (fun r => decide (r.1 = (c, (k : Int))))).map (·.2)
/-- In order, and all are prefixes. -/
structure Srt (l : List Rt) : Prop where
  ok : ∀ r ∈ l, r.1.1.ok ∧ r.1.right
  ord : l.Pairwise (fun x y => x.1.lt y.1)
theorem Srt.nil : Srt [] := ⟨fun r h => by simp at h, .nil⟩
theorem Srt.one {l : List Rt} (h : Srt l) {x y : Rt} (hx : x ∈ l) (hy : y ∈ l) (e : x.1 = y.1) : x = y := by
  have := h.ord
  clear h
  induction l with
  | nil => simp at hx
  | cons z l ih =>
    rw [List.pairwise_cons] at this
    rcases List.mem_cons.1 hx with rfl | hx' <;> rcases List.mem_cons.1 hy with rfl | hy'
    · rfl
    · exact absurd (this.1 y hy') (by rw [e]; exact pf_lt_irrefl _)
    · exact absurd (this.1 x hx') (by rw [e]; exact pf_lt_irrefl _)
    · exact ih hx' hy' this.2
theorem Srt.map {l : List Rt} (h : Srt l) (c : Ad) (k : Nat) (v : Int) : mapOf l c k = some v ↔ ((c, (k : Int)), v) ∈ l := by
  unfold mapOf
  constructor
  · intro e
    cases hf : l.find? (fun r => decide (r.1 = (c, (k : Int)))) with
    | none => rw [hf] at e; cases e
    | some r =>
      rw [hf] at e
      injection e with e
      have h1 := List.find?_some hf
      have h2 := List.mem_of_find?_eq_some hf
      simp only [decide_eq_true_eq] at h1
      obtain ⟨q, u⟩ := r
      simp only at h1 e
      subst h1 e
      exact h2
  · intro hm
    cases hf : l.find? (fun r => decide (r.1 = (c, (k : Int)))) with
    | none =>
      have := List.find?_eq_none.1 hf _ hm
      simp at this
    | some r =>
      have h1 := List.find?_some hf
      have h2 := List.mem_of_find?_eq_some hf
      simp only [decide_eq_true_eq] at h1
      rw [h.one h2 hm h1]; rfl
theorem map_ext {f g : Ad → Nat → Option Int} (h : ∀ c k v, f c k = some v ↔ g c k = some v) : f = g := by
  funext c k
  cases e : f c k with
  | some v => exact ((h c k v).1 e).symm
  | none =>
    cases e' : g c k with
    | none => rfl
    | some v => rw [(h c k v).2 e'] at e; cases e
theorem right_cast {p : Pf} (h : p.right) : ((p.2.toNat : Nat) : Int) = p.2 := Int.toNat_of_nonneg h.1
theorem Srt.get {l : List Rt} (h : Srt l) (p : Pf) (v : Int) : getV (mapOf l) p = some v ↔ (p, v) ∈ l := by
  unfold getV
  by_cases hr : p.right
  · rw [if_pos hr, h.map, right_cast hr]
  · rw [if_neg hr]
    exact ⟨fun e => (by cases e), fun e => absurd (h.ok _ e).2 hr⟩
theorem Srt.getN {l : List Rt} (h : Srt l) (p : Pf) : getV (mapOf l) p = none ↔ ∀ x ∈ l, x.1 ≠ p := by
  constructor
  · intro e x hx hp
    have := (h.get p x.2).2 (by rw [← hp]; exact hx)
    rw [this] at e; cases e
  · intro hx
    cases e : getV (mapOf l) p with
    | none => rfl
    | some v => exact absurd rfl (hx _ ((h.get p v).1 e))

/-- What finding tells. -/
theorem find_parts {l : List Rt} (h : Srt l) (p : Pf) :
    (findI l p = -1 ∧ getV (mapOf l) p = none) ∨ ∃ (k : Nat) (u : Int), findI l p = (k : Int) ∧ l[k]? = some (p, u) ∧ getV (mapOf l) p = some u := by
  cases e : l.findIdx? (fun r => decide (r.1 = p)) with
  | none =>
    left
    refine ⟨by unfold findI; rw [e], (h.getN p).2 fun x hx => ?_⟩
    have := (List.findIdx?_eq_none_iff.1 e) x hx
    simpa using this
  | some k =>
    right
    obtain ⟨hk, h1, h2⟩ := List.findIdx?_eq_some_iff_getElem.1 e
    simp only [decide_eq_true_eq] at h1
    have h3 : l[k]? = some (p, l[k].2) := by rw [List.getElem?_eq_getElem hk, ← h1]
    exact ⟨k, l[k].2, by unfold findI; rw [e], h3, (h.get p _).2 (List.mem_of_getElem? h3)⟩

theorem into_has {l : List Rt} (h : l.Pairwise (fun x y => x.1.lt y.1)) {r x : Rt} : x ∈ intoL l r ↔ x = r ∨ (x ∈ l ∧ x.1 ≠ r.1) := by
  induction l with
  | nil => simp [intoL]
  | cons y l ih =>
    rw [List.pairwise_cons] at h
    have ih := ih h.2
    unfold intoL
    by_cases h1 : y.1.lt r.1
    · rw [if_pos h1, List.mem_cons, ih, List.mem_cons]
      constructor
      · rintro (rfl | rfl | ⟨h2, h3⟩)
        · exact .inr ⟨.inl rfl, fun e => pf_lt_irrefl _ (e ▸ h1)⟩
        · exact .inl rfl
        · exact .inr ⟨.inr h2, h3⟩
      · rintro (rfl | ⟨rfl | h2, h3⟩)
        · exact .inr (.inl rfl)
        · exact .inl rfl
        · exact .inr (.inr ⟨h2, h3⟩)
    · rw [if_neg h1]
      by_cases h2 : y.1 = r.1
      · rw [if_pos h2, List.mem_cons, List.mem_cons]
        constructor
        · rintro (rfl | h3)
          · exact .inl rfl
          · refine .inr ⟨.inr h3, fun e => ?_⟩
            have := h.1 x h3
            rw [h2, ← e] at this
            exact pf_lt_irrefl _ this
        · rintro (rfl | ⟨rfl | h3, h4⟩)
          · exact .inl rfl
          · exact absurd h2 h4
          · exact .inr h3
      · rw [if_neg h2, List.mem_cons, List.mem_cons]
        have h5 : r.1.lt y.1 := (pf_lt_total h2).resolve_left h1
        constructor
        · rintro (rfl | rfl | h3)
          · exact .inl rfl
          · exact .inr ⟨.inl rfl, h2⟩
          · refine .inr ⟨.inr h3, fun e => ?_⟩
            have := pf_lt_trans h5 (h.1 x h3)
            rw [e] at this
            exact pf_lt_irrefl _ this
        · rintro (rfl | ⟨h3, h4⟩)
          · exact .inl rfl
          · exact .inr h3
theorem into_ord {l : List Rt} (h : l.Pairwise (fun x y => x.1.lt y.1)) (r : Rt) : (intoL l r).Pairwise (fun x y => x.1.lt y.1) := by
  induction l with
  | nil => simp [intoL]
  | cons y l ih =>
    have h0 := List.pairwise_cons.1 h
    have ih := ih h0.2
    unfold intoL
    by_cases h1 : y.1.lt r.1
    · rw [if_pos h1, List.pairwise_cons]
      refine ⟨fun x hx => ?_, ih⟩
      rcases (into_has h0.2).1 hx with rfl | ⟨h2, _⟩
      · exact h1
      · exact h0.1 x h2
    · rw [if_neg h1]
      by_cases h2 : y.1 = r.1
      · rw [if_pos h2, List.pairwise_cons]
        exact ⟨fun x hx => h2 ▸ h0.1 x hx, h0.2⟩
      · rw [if_neg h2, List.pairwise_cons]
        have h5 : r.1.lt y.1 := (pf_lt_total h2).resolve_left h1
        refine ⟨fun x hx => ?_, h⟩
        rcases List.mem_cons.1 hx with rfl | hx
        · exact h5
        · exact pf_lt_trans h5 (h0.1 x hx)
theorem into_len {l : List Rt} (h : l.Pairwise (fun x y => x.1.lt y.1)) (r : Rt) : ((∀ x ∈ l, x.1 ≠ r.1) → (intoL l r).length = l.length + 1) ∧ ((∃ x ∈ l, x.1 = r.1) → (intoL l r).length = l.length) := by
  induction l with
  | nil => exact ⟨fun _ => rfl, fun ⟨x, hx, _⟩ => by simp at hx⟩
  | cons y l ih =>
    have h0 := List.pairwise_cons.1 h
    have ih := ih h0.2
    unfold intoL
    by_cases h1 : y.1.lt r.1
    · rw [if_pos h1]
      refine ⟨fun hn => ?_, fun ⟨x, hx, e⟩ => ?_⟩
      · simp only [List.length_cons]; rw [ih.1 fun x hx => hn x (List.mem_cons_of_mem _ hx)]
      · rcases List.mem_cons.1 hx with rfl | hx
        · rw [e] at h1; exact absurd h1 (pf_lt_irrefl _)
        · simp only [List.length_cons]; rw [ih.2 ⟨x, hx, e⟩]
    · rw [if_neg h1]
      by_cases h2 : y.1 = r.1
      · rw [if_pos h2]
        exact ⟨fun hn => absurd h2 (hn y List.mem_cons_self), fun _ => rfl⟩
      · rw [if_neg h2]
        refine ⟨fun _ => rfl, fun ⟨x, hx, e⟩ => ?_⟩
        have h5 : r.1.lt y.1 := (pf_lt_total h2).resolve_left h1
        rcases List.mem_cons.1 hx with rfl | hx
        · exact absurd e h2
        · have := pf_lt_trans h5 (h0.1 x hx)
          rw [e] at this
          exact absurd this (pf_lt_irrefl _)
theorem Srt.into {l : List Rt} (h : Srt l) {r : Rt} (hr : r.1.1.ok ∧ r.1.right) : Srt (intoL l r) :=
  ⟨fun x hx => ((into_has h.ord).1 hx).elim (fun e => e ▸ hr) (fun e => h.ok x e.1), into_ord h.ord r⟩
theorem Srt.into_map {l : List Rt} (h : Srt l) {p : Pf} (u : Int) (hp : p.1.ok) (hr : p.right) :
    putM (mapOf l) p u = mapOf (intoL l (p, u)) ∧ putC (mapOf l) p (l.length : Int) = ((intoL l (p, u)).length : Int) := by
  have hs := h.into (r := (p, u)) ⟨hp, hr⟩
  constructor
  · apply map_ext
    intro c k v
    unfold putM
    rw [if_pos hr, hs.map, into_has h.ord]
    by_cases e : c = p.1 ∧ k = p.2.toNat
    · obtain ⟨rfl, rfl⟩ := e
      rw [updN_same, right_cast hr]
      constructor
      · intro e; injection e with e; subst e; exact .inl rfl
      · rintro (e | ⟨_, e⟩)
        · injection e with _ e; rw [e]
        · exact absurd rfl e
    · rw [updN_ne _ _ e, h.map]
      constructor
      · intro hm
        refine .inr ⟨hm, fun e2 => e ?_⟩
        simp only at e2
        subst e2
        exact ⟨rfl, by simp⟩
      · rintro (e2 | ⟨e2, _⟩)
        · injection e2 with e2 _
          subst e2
          exact absurd ⟨rfl, by simp⟩ e
        · exact e2
  · unfold putC
    rw [if_pos hr]
    have hg : mapOf l p.1 p.2.toNat = getV (mapOf l) p := by unfold getV; rw [if_pos hr]
    rw [hg]
    cases e : getV (mapOf l) p with
    | none => rw [(into_len h.ord (p, u)).1 ((h.getN p).1 e)]; simp
    | some v => rw [(into_len h.ord (p, u)).2 ⟨_, (h.get p v).1 e, rfl⟩]; simp
theorem without_has {l : List Rt} {p : Pf} {x : Rt} : x ∈ withoutL l p ↔ x ∈ l ∧ x.1 ≠ p := by unfold withoutL; rw [List.mem_filter]; simp
theorem Srt.without {l : List Rt} (h : Srt l) (p : Pf) : Srt (withoutL l p) :=
  ⟨fun x hx => h.ok x (without_has.1 hx).1, h.ord.sublist List.filter_sublist⟩
theorem without_len {l : List Rt} (h : l.Pairwise (fun x y => x.1.lt y.1)) (p : Pf) : ((∀ x ∈ l, x.1 ≠ p) → withoutL l p = l) ∧ ((∃ x ∈ l, x.1 = p) → (withoutL l p).length + 1 = l.length) := by
  constructor
  · intro hn
    unfold withoutL
    rw [List.filter_eq_self]
    intro x hx
    simpa using hn x hx
  · rintro ⟨x, hx, e⟩
    induction l with
    | nil => simp at hx
    | cons y l ih =>
      have h0 := List.pairwise_cons.1 h
      unfold withoutL
      rcases List.mem_cons.1 hx with rfl | hx
      · rw [List.filter_cons_of_neg (by simpa using e), List.filter_eq_self.2]
        · rfl
        · intro z hz
          have := h0.1 z hz
          simp only [decide_eq_true_eq]
          intro e2
          rw [e2, e] at this
          exact pf_lt_irrefl _ this
      · have hy : y.1 ≠ p := by
          intro e2
          have := h0.1 x hx
          rw [e, e2] at this
          exact pf_lt_irrefl _ this
        rw [List.filter_cons_of_pos (by simpa using hy)]
        have := ih h0.2 hx
        unfold withoutL at this
        simp only [List.length_cons]
        omega
theorem Srt.without_map {l : List Rt} (h : Srt l) (p : Pf) :
    (if (getV (mapOf l) p).isSome then updN (mapOf l) p.1 p.2.toNat none else mapOf l) = mapOf (withoutL l p) ∧ (if (getV (mapOf l) p).isSome then (l.length : Int) - 1 else (l.length : Int)) = ((withoutL l p).length : Int) := by
  cases e : getV (mapOf l) p with
  | none =>
    rw [(without_len h.ord p).1 ((h.getN p).1 e)]
    exact ⟨rfl, rfl⟩
  | some v =>
    have hm := (h.get p v).1 e
    have hr := (h.ok _ hm).2
    have hlen := (without_len h.ord p).2 ⟨_, hm, rfl⟩
    refine ⟨?_, by simp; omega⟩
    simp only [Option.isSome_some, if_true]
    apply map_ext
    intro c k u
    rw [(h.without p).map, without_has]
    by_cases e2 : c = p.1 ∧ k = p.2.toNat
    · obtain ⟨rfl, rfl⟩ := e2
      rw [updN_same, right_cast hr]
      exact ⟨fun e => (by cases e), fun e => absurd rfl e.2⟩
    · rw [updN_ne _ _ e2, h.map]
      refine ⟨fun hx => ⟨hx, fun e3 => e2 ?_⟩, fun hx => hx.1⟩
      simp only at e3
      subst e3
      exact ⟨rfl, by simp⟩
theorem Srt.get_into {l : List Rt} (h : Srt l) {p : Pf} (u : Int) (hp : p.1.ok) (hr : p.right) : getV (mapOf (intoL l (p, u))) p = some u :=
  ((h.into (r := (p, u)) ⟨hp, hr⟩).get p u).2 ((into_has h.ord).2 (.inl rfl))
theorem Srt.get_without {l : List Rt} (h : Srt l) (p : Pf) : getV (mapOf (withoutL l p)) p = none :=
  ((h.without p).getN p).2 fun x hx => (without_has.1 hx).2
theorem get_no {m : Ad → Nat → Option Int} {p : Pf} (hr : ¬ p.right) : getV m p = none := if_neg hr

/-- What the longest of a list is. -/
theorem lonK_says {l : List Rt} {a : Ad} {low high : Int} : ∀ k, (lonK l a low high k = none → ∀ (j : Nat) (x : Rt), j < k → l[j]? = some x → ¬ inR x.1 a low high) ∧
    (∀ b, lonK l a low high k = some b → ∃ r, l[b]? = some r ∧ inR r.1 a low high ∧ ∀ (j : Nat) (x : Rt), j < k → l[j]? = some x → inR x.1 a low high → x.1.2 ≤ r.1.2)
  | 0 => ⟨fun _ j x hj => by omega, fun b e => by simp [lonK] at e⟩
  | k + 1 => by
    have ih := lonK_says (l := l) (a := a) (low := low) (high := high) k
    unfold lonK
    cases hk : l[k]? with
    | none =>
      simp only
      refine ⟨fun e j x hj hx => ?_, fun b e => ?_⟩
      · by_cases hjk : j = k
        · subst hjk; rw [hk] at hx; cases hx
        · exact ih.1 e j x (by omega) hx
      · obtain ⟨r, h1, h2, h3⟩ := ih.2 b e
        refine ⟨r, h1, h2, fun j x hj hx hi => ?_⟩
        by_cases hjk : j = k
        · subst hjk; rw [hk] at hx; cases hx
        · exact h3 j x (by omega) hx hi
    | some r =>
      simp only
      by_cases hin : inR r.1 a low high
      · rw [if_pos hin]
        cases hb : lonK l a low high k with
        | none =>
          simp only
          refine ⟨fun e => (by cases e), fun b e => ?_⟩
          injection e with e
          subst e
          refine ⟨r, hk, hin, fun j x hj hx hi => ?_⟩
          by_cases hjk : j = k
          · subst hjk; rw [hk] at hx; injection hx with hx; subst hx; exact Int.le_refl _
          · exact absurd hi (ih.1 hb j x (by omega) hx)
        | some b' =>
          simp only
          obtain ⟨r', h1, h2, h3⟩ := ih.2 b' hb
          have hla : lenAt l b' = r'.1.2 := by unfold lenAt; rw [h1]
          rw [hla]
          by_cases hlt : r'.1.2 < r.1.2
          · rw [if_pos hlt]
            refine ⟨fun e => (by cases e), fun b e => ?_⟩
            injection e with e
            subst e
            refine ⟨r, hk, hin, fun j x hj hx hi => ?_⟩
            by_cases hjk : j = k
            · subst hjk; rw [hk] at hx; injection hx with hx; subst hx; exact Int.le_refl _
            · have := h3 j x (by omega) hx hi; omega
          · rw [if_neg hlt]
            refine ⟨fun e => (by cases e), fun b e => ?_⟩
            injection e with e
            subst e
            refine ⟨r', h1, h2, fun j x hj hx hi => ?_⟩
            by_cases hjk : j = k
            · subst hjk; rw [hk] at hx; injection hx with hx; subst hx; omega
            · exact h3 j x (by omega) hx hi
      · rw [if_neg hin]
        refine ⟨fun e j x hj hx => ?_, fun b e => ?_⟩
        · by_cases hjk : j = k
          · subst hjk; rw [hk] at hx; injection hx with hx; subst hx; exact hin
          · exact ih.1 e j x (by omega) hx
        · obtain ⟨r', h1, h2, h3⟩ := ih.2 b e
          refine ⟨r', h1, h2, fun j x hj hx hi => ?_⟩
          by_cases hjk : j = k
          · subst hjk; rw [hk] at hx; injection hx with hx; subst hx; exact absurd hi hin
          · exact h3 j x (by omega) hx hi
/-- Above what was found there is nothing. -/
theorem bestT_top {m : Ad → Nat → Option Int} {a : Ad} {low : Int} : ∀ {K i : Nat} {h : Int}, bestT m a low K = some (i, h) → ∀ j, i < j → j < K → m (a.cut j) j = none
  | 0, i, h, e => by simp [bestT] at e
  | K + 1, i, h, e => by
    intro j h1 h2
    have hi := (bestT_lt e).2.1
    unfold bestT at e
    rw [if_pos (by omega)] at e
    cases h3 : m (a.cut K) K with
    | some h' => rw [h3] at e; injection e with e; injection e with e1 e2; omega
    | none =>
      rw [h3] at e
      by_cases h4 : j = K
      · subst h4; exact h3
      · exact bestT_top e j h1 (by omega)
theorem long_parts {l : List Rt} (h : Srt l) {a : Ad} (ha : a.ok) (low high : Int) :
    (longI l a low high = -1 ∧ bestT (mapOf l) a low (btK high) = none) ∨ ∃ (k : Nat) (x : Nat × Int), longI l a low high = (k : Int) ∧ l[k]? = some (btR a (some x)) ∧ bestT (mapOf l) a low (btK high) = some x := by
  have hin : ∀ (x : Rt), x ∈ l → inR x.1 a low high → ∃ i : Nat, i < btK high ∧ low < (i : Int) ∧ x.1 = (a.cut i, (i : Int)) ∧ mapOf l (a.cut i) i = some x.2 := by
    rintro ⟨⟨c, n⟩, u⟩ hx ⟨h1, h2, h3⟩
    have hr := h3.1
    simp only at h1 h2 hr
    have hc := right_cast hr
    simp only at hc
    have h5 : a.cut n.toNat = c := h3.2
    refine ⟨n.toNat, ?_, by omega, ?_, ?_⟩
    · have := hr.2.1; have := hr.1; unfold btK; simp only at *; omega
    · rw [h5, hc]
    · rw [h5]; exact (h.map _ _ _).2 (by rw [hc]; exact hx)
  have hout : ∀ (i : Nat) (v : Int), i < btK high → low < (i : Int) → mapOf l (a.cut i) i = some v → ((a.cut i, (i : Int)), v) ∈ l ∧ inR (a.cut i, (i : Int)) a low high := by
    intro i v h1 h2 h3
    have hm := (h.map _ _ _).1 h3
    refine ⟨hm, h2, ?_, (h.ok _ hm).2, ?_⟩
    · unfold btK at h1; show (i : Int) ≤ high; omega
    · show a.cut (i : Int).toNat = a.cut i; rw [Int.toNat_natCast]
  have hS := lonK_says (l := l) (a := a) (low := low) (high := high) l.length
  unfold longI
  cases e : lonK l a low high l.length with
  | none =>
    left
    refine ⟨rfl, ?_⟩
    cases e2 : bestT (mapOf l) a low (btK high) with
    | none => rfl
    | some x =>
      obtain ⟨i, v⟩ := x
      obtain ⟨h1, h2, h3⟩ := bestT_lt e2
      obtain ⟨h4, h5⟩ := hout i v h1 h2 h3
      obtain ⟨j, hj⟩ := List.getElem?_of_mem h4
      exact absurd h5 (hS.1 e j _ (List.getElem?_eq_some_iff.1 hj).1 hj)
  | some b =>
    right
    obtain ⟨r, h1, h2, h3⟩ := hS.2 b e
    obtain ⟨i, i1, i2, i3, i4⟩ := hin r (List.mem_of_getElem? h1) h2
    cases e2 : bestT (mapOf l) a low (btK high) with
    | none => rw [bestT_all e2 i i1 i2] at i4; cases i4
    | some x =>
      obtain ⟨i', v⟩ := x
      obtain ⟨j1, j2, j3⟩ := bestT_lt e2
      obtain ⟨j4, j5⟩ := hout i' v j1 j2 j3
      obtain ⟨j, hj⟩ := List.getElem?_of_mem j4
      have h6 := h3 j _ (List.getElem?_eq_some_iff.1 hj).1 hj j5
      rw [i3] at h6
      simp only at h6
      have h7 : ¬ i' < i := fun hlt => by
        have := bestT_top e2 i hlt i1
        rw [this] at i4; cases i4
      obtain rfl : i' = i := by omega
      rw [j3] at i4
      injection i4 with i4
      refine ⟨b, (i', v), rfl, ?_, rfl⟩
      rw [h1]
      obtain ⟨q, u⟩ := r
      simp only at i3 i4
      subst i3 i4
      rfl

end Go.Proofs.Ytcnecjjgnnkjkaa
