/-
  A trie in memory: nodes by the bits that lead to them, each a block of its own; what each operation of it leaves. No condition.
-/
import Derived.Test.YtjhgmjfjlndomaaRefAddr
import Derived.Test.YtjhgmjfjlndomaaProg
namespace Go.Proofs.Ytjhgmjfjlndomaa
open Go.RowKit
set_option linter.unusedVariables false
set_option linter.unusedSimpArgs false

/-- c has i bits alone. -/
def Kok (c : Ad) (i : Nat) : Prop := c.ok ∧ c.cut i = c ∧ i ≤ 128
theorem Kok.of_cut {a : Ad} (ha : a.ok) {i : Nat} (hi : i ≤ 128) : Kok (a.cut i) i := ⟨Ad.cut_ok ha i, by rw [Ad.cut_cut ha i i hi hi, Nat.min_self], hi⟩
theorem Kok.root : Kok (0, 0) 0 := ⟨⟨by decide, by decide⟩, by decide, by decide⟩
theorem Kok.bit_out {c : Ad} {i : Nat} (h : Kok c i) {j : Nat} (hj : i ≤ j) (h128 : j < 128) : c.bit j = 0 := by
  have := Ad.bit_cut h.1 i j h.2.2 h128
  rw [h.2.1, if_neg (by omega)] at this; exact this
theorem Kok.zero {c : Ad} {i : Nat} (h : Kok c i) (hi : i < 128) : Kok c (i + 1) := by
  refine ⟨h.1, ?_, by omega⟩
  conv => lhs; rw [← h.2.1]
  rw [Ad.cut_cut h.1 i (i + 1) h.2.2 (by omega), Nat.min_eq_left (by omega), h.2.1]
theorem with_cut {c : Ad} {i : Nat} (h : Kok c i) (hi : i < 128) : (c.with i).cut i = c := by
  apply Ad.ext_bits (Ad.cut_ok (Ad.with_ok h.1 i) i) h.1
  intro j hj
  rw [Ad.bit_cut (Ad.with_ok h.1 i) i j h.2.2 hj, Ad.bit_with c i j hi hj]
  by_cases h1 : j < i
  · rw [if_pos h1, if_neg (by omega)]
  · rw [if_neg h1, h.bit_out (by omega) hj]
theorem Kok.one {c : Ad} {i : Nat} (h : Kok c i) (hi : i < 128) : Kok (c.with i) (i + 1) := by
  refine ⟨Ad.with_ok h.1 i, ?_, by omega⟩
  apply Ad.ext_bits (Ad.cut_ok (Ad.with_ok h.1 i) _) (Ad.with_ok h.1 i)
  intro j hj
  rw [Ad.bit_cut (Ad.with_ok h.1 i) (i + 1) j (by omega) hj, Ad.bit_with c i j hi hj]
  by_cases h1 : j < i + 1
  · rw [if_pos h1]
  · rw [if_neg h1, if_neg (by omega), h.bit_out (by omega) hj]
theorem with_ne {c : Ad} {i : Nat} (h : Kok c i) (hi : i < 128) : c.with i ≠ c := by
  intro e
  have h1 := Ad.bit_with c i i hi hi
  rw [e, h.bit_out (Nat.le_refl _) hi, if_pos rfl] at h1
  exact absurd h1 (by decide)
/-- The child that an address leads to. -/
def kid (c : Ad) (i bit : Nat) : Ad := if bit = 1 then c.with i else c
theorem kid_cut (a : Ad) (ha : a.ok) (i : Nat) (hi : i < 128) : a.cut (i + 1) = kid (a.cut i) i (a.bit i) := cut_next a ha i hi
theorem kid_ok {c : Ad} {i : Nat} (h : Kok c i) (hi : i < 128) (bit : Nat) : Kok (kid c i bit) (i + 1) := by unfold kid; split; exact h.one hi; exact h.zero hi
theorem kid_up {c : Ad} {i : Nat} (h : Kok c i) (hi : i < 128) (bit : Nat) : (kid c i bit).cut i = c := by unfold kid; split; exact with_cut h hi; exact h.2.1

def ptrV : Option Nat → Value
  | none => .pointer none
  | some b => .pointer (some ⟨b, 0, none⟩)
def nodeT (g b : Nat) : TypeId := if b = g then 47 else 45
def nodeC (g b : Nat) (n : Int) (v : Option Int) (l r : Option Nat) : List Value := [.bool v.isSome, .int .i64 (v.getD 0), ptrV l, ptrV r] ++ if b = g then [.int .i64 n] else []

/-- The trie at block g: N where each node lies, m what each prefix has, n how many there are; its blocks are all in F. -/
structure TrieN (w : World) (g : Nat) (F : Nat → Prop) (N : Ad → Nat → Option Nat) (m : Ad → Nat → Option Int) (n : Int) : Prop where
  root : N (0, 0) 0 = some g
  node : ∀ c i b, Kok c i → N c i = some b → F b ∧ Blk w b (nodeT g b) (nodeC g b n (m c i) (N c (i + 1)) (N (c.with i) (i + 1)))
  deep : ∀ c, N c 129 = none
  inj : ∀ c i c' i' b, Kok c i → Kok c' i' → N c i = some b → N c' i' = some b → c = c' ∧ i = i'
  up : ∀ c i, Kok c (i + 1) → N (c.cut i) i = none → N c (i + 1) = none
  val : ∀ c i, Kok c i → N c i = none → m c i = none
  lt : ∀ b, F b → b < w.heap.size

section
variable {w : World} {g : Nat} {F : Nat → Prop} {N : Ad → Nat → Option Nat} {m : Ad → Nat → Option Int} {n : Int}
theorem TrieN.chg {w' : World} {S : Nat → Prop} (H : TrieN w g F N m n) (k : Chg S w w') (hS : ∀ b, F b → ¬ S b) : TrieN w' g F N m n :=
  ⟨H.root, fun c i b hk hb => ⟨(H.node c i b hk hb).1, (H.node c i b hk hb).2.chg k (hS b (H.node c i b hk hb).1)⟩, H.deep, H.inj, H.up, H.val, fun b hb => Nat.lt_of_lt_of_le (H.lt b hb) k.size⟩
theorem TrieN.below {w' : World} (H : TrieN w g F N m n) (k : Below w.heap.size w w') : TrieN w' g F N m n := H.chg (Chg.of_below k fun _ => False) fun _ _ h => h
theorem TrieN.rootF (H : TrieN w g F N m n) : F g := (H.node _ _ _ Kok.root H.root).1
theorem TrieN.top (H : TrieN w g F N m n) : ∃ (v : Option Int) (l r : Option Nat), Blk w g 47 [.bool v.isSome, .int .i64 (v.getD 0), ptrV l, ptrV r, .int .i64 n] := by
  have h := (H.node _ _ _ Kok.root H.root).2
  unfold nodeT nodeC at h
  rw [if_pos rfl, if_pos rfl] at h
  exact ⟨_, _, _, h⟩
/-- Below a prefix that has no node there is none. -/
theorem TrieN.none_below (H : TrieN w g F N m n) {a : Ad} (ha : a.ok) {i : Nat} (hi : N (a.cut i) i = none) : ∀ j, i ≤ j → j ≤ 128 → N (a.cut j) j = none
  | j, hij, hj => by
    induction j with
    | zero => obtain rfl : i = 0 := by omega
              exact hi
    | succ j ih =>
      by_cases e : i = j + 1
      · subst e; exact hi
      · apply H.up _ _ (Kok.of_cut ha hj)
        rw [Ad.cut_cut ha _ _ (by omega) (by omega), Nat.min_eq_right (by omega)]
        exact ih (by omega) (by omega)
/-- The cell of the child that an address leads to. -/
theorem TrieN.kid (H : TrieN w g F N m n) {a : Ad} (ha : a.ok) {i b : Nat} (hi : i < 128) (hb : N (a.cut i) i = some b) : w.cell? ⟨b, 2 + a.bit i, none⟩ = some (ptrV (N (a.cut (i + 1)) (i + 1))) := by
  have h := (H.node _ _ _ (Kok.of_cut ha (by omega)) hb).2
  have hle := Ad.bit_le a i
  rw [kid_cut a ha i hi]
  unfold Proofs.Ytjhgmjfjlndomaa.kid
  by_cases h1 : a.bit i = 1
  · rw [h1, if_pos rfl]; exact h.cellv (i := 3) rfl
  · have h0 : a.bit i = 0 := by omega
    rw [h0, if_neg (by decide)]; exact h.cellv (i := 2) rfl
def updN {α : Type} (f : Ad → Nat → Option α) (c : Ad) (i : Nat) (v : Option α) : Ad → Nat → Option α := fun c' i' => if c' = c ∧ i' = i then v else f c' i'
theorem updN_same {α : Type} (f : Ad → Nat → Option α) (c : Ad) (i : Nat) (v : Option α) : updN f c i v c i = v := if_pos ⟨rfl, rfl⟩
theorem updN_ne {α : Type} (f : Ad → Nat → Option α) {c c' : Ad} {i i' : Nat} (v : Option α) (h : ¬ (c' = c ∧ i' = i)) : updN f c i v c' i' = f c' i' := if_neg h

/-- A new node where there was none. -/
theorem TrieN.grow (H : TrieN w g F N m n) {a : Ad} (ha : a.ok) {i b : Nat} (hi : i < 128) (hb : N (a.cut i) i = some b) (hno : N (a.cut (i + 1)) (i + 1) = none) :
    TrieN ((w.alloc (.cells #[.bool false, .int .i64 0, .pointer none, .pointer none] 45)).setCell ⟨b, 2 + a.bit i, none⟩ (.pointer (some ⟨w.heap.size, 0, none⟩))) g (fun x => F x ∨ x = w.heap.size) (updN N (a.cut (i + 1)) (i + 1) (some w.heap.size)) m n := by
  have hk := Kok.of_cut ha (i := i) (by omega)
  have hk1 := Kok.of_cut ha (i := i + 1) (by omega)
  have hcut : (a.cut (i + 1)).cut i = a.cut i := by rw [Ad.cut_cut ha _ _ (by omega) (by omega), Nat.min_eq_right (by omega)]
  have hnb := (H.node _ _ _ hk hb)
  have hbl := H.lt b hnb.1
  have hkid := kid_cut a ha i hi
  have hle := Ad.bit_le a i
  have hgl := H.lt g H.rootF
  -- who else has this child
  have hpar : ∀ c' i', Kok c' i' → i' < 129 → (c' = a.cut (i + 1) ∧ i' + 1 = i + 1 ∨ c'.with i' = a.cut (i + 1) ∧ i' + 1 = i + 1) → c' = a.cut i ∧ i' = i := by
    rintro c' i' hk' _ (⟨h1, h2⟩ | ⟨h1, h2⟩)
    · obtain rfl : i' = i := by omega
      exact ⟨by rw [← hcut, ← h1]; exact hk'.2.1.symm, rfl⟩
    · obtain rfl : i' = i := by omega
      exact ⟨by rw [← hcut, ← h1]; exact (with_cut hk' hi).symm, rfl⟩
  refine ⟨?_, ?_, ?_, ?_, ?_, ?_, ?_⟩
  · rw [updN_ne _ _ (by omega)]; exact H.root
  · intro c' i' b' hk' hb'
    by_cases e : c' = a.cut (i + 1) ∧ i' = i + 1
    · obtain ⟨rfl, rfl⟩ := e
      rw [updN_same] at hb'
      injection hb' with hb'
      subst hb'
      refine ⟨.inr rfl, ?_⟩
      have hz : ∀ c2, Kok c2 (i + 2) → c2.cut (i + 1) = a.cut (i + 1) → N c2 (i + 2) = none := fun c2 h2 e2 => H.up c2 (i + 1) h2 (by rw [e2]; exact hno)
      have hl : updN N (a.cut (i + 1)) (i + 1) (some w.heap.size) (a.cut (i + 1)) (i + 1 + 1) = none := by
        rw [updN_ne _ _ (by omega)]
        by_cases h128 : i + 1 < 128
        · exact hz _ (hk1.zero h128) hk1.2.1
        · rw [show i + 1 + 1 = 129 from by omega]; exact H.deep _
      have hr : updN N (a.cut (i + 1)) (i + 1) (some w.heap.size) ((a.cut (i + 1)).with (i + 1)) (i + 1 + 1) = none := by
        rw [updN_ne _ _ (by omega)]
        by_cases h128 : i + 1 < 128
        · exact hz _ (hk1.one h128) (with_cut hk1 h128)
        · rw [show i + 1 + 1 = 129 from by omega]; exact H.deep _
      rw [hl, hr, H.val _ _ hk1 hno]
      unfold nodeT nodeC
      rw [if_neg (by omega), if_neg (by omega)]
      exact (Blk.new w [.bool false, .int .i64 0, .pointer none, .pointer none] 45).set_ne (by simp; omega) _
    · rw [updN_ne _ _ e] at hb'
      obtain ⟨hF, hB⟩ := H.node c' i' b' hk' hb'
      refine ⟨.inl hF, ?_⟩
      by_cases e2 : c' = a.cut i ∧ i' = i
      · obtain ⟨rfl, rfl⟩ := e2
        rw [hb] at hb'
        injection hb' with hb'
        subst hb'
        have hBs := ((hB.alloc (.cells #[.bool false, .int .i64 0, .pointer none, .pointer none] 45)).set (2 + a.bit i') (.pointer (some ⟨w.heap.size, 0, none⟩)))
        by_cases h1 : a.bit i' = 1
        · have hkc : a.cut (i' + 1) = (a.cut i').with i' := by rw [hkid]; unfold Proofs.Ytjhgmjfjlndomaa.kid; rw [if_pos h1]
          rw [h1] at hBs ⊢
          rw [hkc, updN_same, updN_ne _ _ (fun h => with_ne hk hi h.1.symm)]
          exact hBs
        · have h0 : a.bit i' = 0 := by omega
          have hkc : a.cut (i' + 1) = a.cut i' := by rw [hkid]; unfold Proofs.Ytjhgmjfjlndomaa.kid; rw [if_neg h1]
          rw [h0] at hBs ⊢
          rw [hkc, updN_same, updN_ne _ _ (fun h => with_ne hk hi h.1)]
          exact hBs
      · have hne : b' ≠ b := fun e3 => e2 (by subst e3; exact H.inj _ _ _ _ _ hk' hk hb' hb)
        rw [updN_ne _ _ (fun h => e2 (hpar c' i' hk' (by have := hk'.2.2; omega) (.inl ⟨h.1, h.2⟩))), updN_ne _ _ (fun h => e2 (hpar c' i' hk' (by have := hk'.2.2; omega) (.inr ⟨h.1, h.2⟩)))]
        exact (hB.alloc _).set_ne (by simpa using hne) _
  · intro c'; rw [updN_ne _ _ (by omega)]; exact H.deep c'
  · intro c1 i1 c2 i2 b' h1 h2 e1 e2
    by_cases x1 : c1 = a.cut (i + 1) ∧ i1 = i + 1 <;> by_cases x2 : c2 = a.cut (i + 1) ∧ i2 = i + 1
    · exact ⟨x1.1.trans x2.1.symm, x1.2.trans x2.2.symm⟩
    · rw [x1.1, x1.2, updN_same] at e1
      rw [updN_ne _ _ x2] at e2
      injection e1 with e1
      subst e1
      exact absurd (H.lt _ (H.node _ _ _ h2 e2).1) (by omega)
    · rw [x2.1, x2.2, updN_same] at e2
      rw [updN_ne _ _ x1] at e1
      injection e2 with e2
      subst e2
      exact absurd (H.lt _ (H.node _ _ _ h1 e1).1) (by omega)
    · rw [updN_ne _ _ x1] at e1
      rw [updN_ne _ _ x2] at e2
      exact H.inj _ _ _ _ _ h1 h2 e1 e2
  · intro c' i' hk' e
    by_cases x1 : c' = a.cut (i + 1) ∧ i' + 1 = i + 1
    · obtain ⟨rfl, h2⟩ := x1
      obtain rfl : i' = i := by omega
      rw [hcut, updN_ne _ _ (by omega), hb] at e
      cases e
    · rw [updN_ne _ _ x1]
      apply H.up c' i' hk'
      by_cases x2 : c'.cut i' = a.cut (i + 1) ∧ i' = i + 1
      · rw [x2.1, x2.2, updN_same] at e; cases e
      · rwa [updN_ne _ _ x2] at e
  · intro c' i' hk' e
    by_cases x1 : c' = a.cut (i + 1) ∧ i' = i + 1
    · rw [x1.1, x1.2, updN_same] at e; cases e
    · rw [updN_ne _ _ x1] at e; exact H.val c' i' hk' e
  · intro x hx
    have : ((w.alloc (.cells #[.bool false, .int .i64 0, .pointer none, .pointer none] 45)).setCell ⟨b, 2 + a.bit i, none⟩ (.pointer (some ⟨w.heap.size, 0, none⟩))).heap.size = w.heap.size + 1 := by simp [World.setCell]
    rw [this]
    rcases hx with hx | hx
    · have := H.lt x hx; omega
    · omega

/-- Another value at a node. -/
theorem TrieN.set (H : TrieN w g F N m n) {c : Ad} {i b : Nat} (hk : Kok c i) (hb : N c i = some b) (v : Option Int) :
    TrieN ((w.setCell ⟨b, 1, none⟩ (.int .i64 (v.getD 0))).setCell ⟨b, 0, none⟩ (.bool v.isSome)) g F N (updN m c i v) n := by
  refine ⟨H.root, ?_, H.deep, H.inj, H.up, ?_, fun x hx => by have := H.lt x hx; simpa [World.setCell] using this⟩
  · intro c' i' b' hk' hb'
    obtain ⟨hF, hB⟩ := H.node c' i' b' hk' hb'
    refine ⟨hF, ?_⟩
    by_cases e : c' = c ∧ i' = i
    · obtain ⟨rfl, rfl⟩ := e
      rw [hb] at hb'
      injection hb' with hb'
      subst hb'
      rw [updN_same]
      exact (hB.set 1 _).set 0 _
    · have hne : b' ≠ b := fun e3 => e (by subst e3; exact H.inj _ _ _ _ _ hk' hk hb' hb)
      rw [updN_ne _ _ e]
      exact (hB.set_ne (by simpa using hne) _).set_ne (by simpa using hne) _
  · intro c' i' hk' e
    by_cases x : c' = c ∧ i' = i
    · rw [x.1, x.2, hb] at e; cases e
    · rw [updN_ne _ _ x]; exact H.val c' i' hk' e
/-- Another count. -/
theorem TrieN.setn (H : TrieN w g F N m n) (n' : Int) : TrieN (w.setCell ⟨g, 4, none⟩ (.int .i64 n')) g F N m n' := by
  refine ⟨H.root, ?_, H.deep, H.inj, H.up, H.val, fun x hx => by have := H.lt x hx; simpa [World.setCell] using this⟩
  intro c' i' b' hk' hb'
  obtain ⟨hF, hB⟩ := H.node c' i' b' hk' hb'
  refine ⟨hF, ?_⟩
  by_cases e : b' = g
  · subst e
    have := hB.set 4 (.int .i64 n')
    unfold nodeT nodeC at this ⊢
    rw [if_pos rfl, if_pos rfl] at this ⊢
    exact this
  · have := hB.set_ne (a := ⟨g, 4, none⟩) e (.int .i64 n')
    unfold nodeT nodeC at this ⊢
    rw [if_neg e, if_neg e] at this ⊢
    exact this
theorem TrieN.drewN (H : TrieN w g F N m n) (k : Nat) : TrieN (w.drewN k) g F N m n := H.chg ((Chg.refl (fun _ => False) w).drewN k) fun _ _ h => h
theorem TrieN.drew (H : TrieN w g F N m n) : TrieN w.drew g F N m n := H.chg ((Chg.refl (fun _ => False) w).drew) fun _ _ h => h
/-- A new trie. -/
theorem TrieN.new (w : World) : TrieN (w.alloc (.cells #[.bool false, .int .i64 0, .pointer none, .pointer none, .int .i64 0] 47)) w.heap.size (fun x => x = w.heap.size) (fun c i => if c = (0, 0) ∧ i = 0 then some w.heap.size else none) (fun _ _ => none) 0 := by
  refine ⟨if_pos ⟨rfl, rfl⟩, ?_, fun c => if_neg (by omega), ?_, fun c i hk e => if_neg (by omega), fun _ _ _ _ => rfl, fun x hx => by subst hx; simp⟩
  · intro c i b hk hb
    by_cases e : c = (0, 0) ∧ i = 0
    · rw [if_pos e] at hb
      injection hb with hb
      subst hb
      refine ⟨rfl, ?_⟩
      rw [if_neg (by omega), if_neg (by omega)]
      unfold nodeT nodeC
      rw [if_pos rfl, if_pos rfl]
      exact Blk.new w [.bool false, .int .i64 0, .pointer none, .pointer none, .int .i64 0] 47
    · rw [if_neg e] at hb; cases hb
  · intro c i c' i' b h1 h2 e1 e2
    by_cases x1 : c = (0, 0) ∧ i = 0 <;> by_cases x2 : c' = (0, 0) ∧ i' = 0
    · exact ⟨x1.1.trans x2.1.symm, x1.2.trans x2.2.symm⟩
    · rw [if_neg x2] at e2; cases e2
    · rw [if_neg x1] at e1; cases e1
    · rw [if_neg x1] at e1; cases e1
end

end Go.Proofs.Ytjhgmjfjlndomaa
