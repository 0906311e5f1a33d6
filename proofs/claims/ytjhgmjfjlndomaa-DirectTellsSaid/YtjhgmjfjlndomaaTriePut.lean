/-
  Contracts of Put, Get, Delete, Len over a trie in memory. No condition but that words are words, and that the count is no great number.
-/
import Derived.Test.YtjhgmjfjlndomaaTrie
namespace Go.Proofs.Ytjhgmjfjlndomaa
open Go.RowKit
set_option linter.unusedVariables false
set_option linter.unusedSimpArgs false
set_option maxRecDepth 100000

theorem Kok.of_right {p : Pf} (hp : p.1.ok) (hr : p.right) : Kok p.1 p.2.toNat := ⟨hp, hr.2.2, by have := hr.2.1; have := hr.1; omega⟩
def getV (m : Ad → Nat → Option Int) (p : Pf) : Option Int := if p.right then m p.1 p.2.toNat else none

def PutPost (w : World) (g : Nat) (F : Nat → Prop) (m : Ad → Nat → Option Int) (n : Int) (c : Ad) (L : Nat) (hop : Int) (e : Ending) (w' : World) : Prop :=
  e = .returned (.tuple #[.int .i64 ((m c L).getD 0), .bool (m c L).isSome]) ∧ TrieNext w g F (updN m c L (some hop)) (if (m c L).isSome then n else n + 1) w'
section
variable {w w1 : World} {g q : Nat} {F F' : Nat → Prop} {N' : Ad → Nat → Option Nat} {m : Ad → Nat → Option Int} {n : Int} {c : Ad} {L : Nat} {o : Obj}
theorem put_none (HT : TrieN w1 g F' N' m n) (HN : N' c L = some q) (HK : Kok c L) (HG : F g) (HC : Chg F (w.alloc o) w1) (HF : ∀ x, F' x → F x ∨ (w.alloc o).heap.size ≤ x) (hm : m c L = none) (hop : Int) (k : Nat) :
    PutPost w g F m n c L hop (.returned (.tuple #[.int .i64 0, .bool false])) ((((w1.drewN k).setCell ⟨g, 4, none⟩ (.int .i64 (n + 1))).setCell ⟨q, 1, none⟩ (.int .i64 hop)).setCell ⟨q, 0, none⟩ (.bool true)) := by
  have hq : ∀ (h : q < w.heap.size), F q := fun h => (HF q (HT.node _ _ _ HK HN).1).resolve_right (by simp; omega)
  refine ⟨by rw [hm]; rfl, F', N', ?_, ?_, fun x hx => (HF x hx).imp id fun h => by simp at h; omega⟩
  · rw [hm]; exact ((HT.drewN k).setn (n + 1)).set HK HN (some hop)
  · exact ((((((Chg.refl F w).alloc o).trans' HC).drewN k).setCell (fun _ => HG) _).setCell hq _).setCell hq _
theorem put_some (HT : TrieN w1 g F' N' m n) (HN : N' c L = some q) (HK : Kok c L) (HC : Chg F (w.alloc o) w1) (HF : ∀ x, F' x → F x ∨ (w.alloc o).heap.size ≤ x) {h : Int} (hm : m c L = some h) (hop : Int) (k : Nat) :
    PutPost w g F m n c L hop (.returned (.tuple #[.int .i64 h, .bool true])) (((w1.drewN k).setCell ⟨q, 1, none⟩ (.int .i64 hop)).setCell ⟨q, 0, none⟩ (.bool true)) := by
  have hq : ∀ (h : q < w.heap.size), F q := fun h => (HF q (HT.node _ _ _ HK HN).1).resolve_right (by simp; omega)
  refine ⟨by rw [hm]; rfl, F', N', ?_, ?_, fun x hx => (HF x hx).imp id fun h => by simp at h; omega⟩
  · rw [hm]; exact (HT.drewN k).set HK HN (some hop)
  · exact ((((Chg.refl F w).alloc o).trans' HC).drewN k).setCell hq _ |>.setCell hq _
end
theorem trie_put_yes {w : World} {g : Nat} {F : Nat → Prop} {N : Ad → Nat → Option Nat} {m : Ad → Nat → Option Int} {n : Int} (H : TrieN w g F N m n) (h0 : 0 ≤ n) (h1 : n ≤ 4611686018427387904) (p : Pf) (hp : p.1.ok) (hop : Int) (hr : p.right) :
    Calls Try.prog 26 #[.pointer (some ⟨g, 0, none⟩), .agg #[.int .u64 (p.1.1 : Int), .int .u64 (p.1.2 : Int), .int .i64 p.2], .int .i64 hop] w (PutPost w g F m n p.1 p.2.toNat hop) := by
  have c1 := hid (trie_grow (H.below ((Below.refl w.heap.size w).alloc (Nat.le_refl _) (.cells #[.int .u64 (p.1.1 : Int), .int .u64 (p.1.2 : Int), .int .i64 p.2] 26))) p hp hr)
  have HK := hid (Kok.of_right hp hr)
  have HF := hid (fun x hx => H.lt x hx)
  have HG := hid H.rootF
  generalize hL : p.2.toNat = L at HK c1 ⊢
  clear hL H hr hp
  obtain ⟨⟨a, b⟩, i⟩ := p
  go_enter Try.func26, Try.ntmps26
  go_wp2_with fail
  refine c1.out.mono ?_
  rintro _ w1 ⟨q, F', N', rfl, hT, hN, hC, hF'⟩
  have HT := hid hT
  have HN := hid hN
  have HC := hid hC
  have HF' := hid hF'
  have hB := (hT.node _ _ _ HK.out hN).2
  obtain ⟨v0, l0, r0, hTop⟩ := hT.top
  have f0 := hB.frozen 0
  have f1 := hB.frozen 1
  have x0 := hB.cellv (i := 0) rfl
  have x1 := hB.cellv (i := 1) rfl
  have y4 := hTop.cellv (i := 4) rfl
  have g4 := hTop.frozen 4
  clear hT hN hC hF' hB hTop
  generalize hm : m (a, b) L = v at x0 x1
  have HM := hid hm
  clear hm
  have hbg : q = g ∨ q ≠ g := by omega
  rcases hbg with rfl | hbg <;> cases v
  all_goals
    simp only [Option.isSome_none, Option.isSome_some, Option.getD_none, Option.getD_some] at x0 x1
    go_wp2_with fail
    go_quiet (fail)
    go_wp2_with fail
    go_ret2
    first
      | exact put_none HT.out HN.out HK.out HG.out HC.out HF'.out HM.out _ _
      | exact put_some HT.out HN.out HK.out HC.out HF'.out HM.out _ _

theorem trie_put_no {w : World} {g : Nat} (p : Pf) (hp : p.1.ok) (hop : Int) (hr : ¬ p.right) :
    Calls Try.prog 26 #[.pointer (some ⟨g, 0, none⟩), .agg #[.int .u64 (p.1.1 : Int), .int .u64 (p.1.2 : Int), .int .i64 p.2], .int .i64 hop] w fun e w' => e = .returned (.tuple #[.int .i64 0, .bool false]) ∧ Below w.heap.size w w' := by
  have c1 := hid fun w => trie_grow_no (w := w) (g := g) p hp hr
  clear hr hp
  obtain ⟨⟨a, b⟩, i⟩ := p
  go_enter Try.func26, Try.ntmps26
  go_wp2_with fail
  refine (c1.out _).mono ?_
  rintro _ w1 ⟨rfl, hb1⟩
  have hB := hid (Below.trans (b := _) ((Below.refl w.heap.size w).alloc (Nat.le_refl _) _) (hb1.mono (by simp)))
  clear hb1
  go_wp2_with fail
  go_ret2
  exact ⟨rfl, hB.out⟩

def GetPost (w : World) (v : Option Int) (e : Ending) (w' : World) : Prop := e = .returned (.tuple #[.int .i64 (v.getD 0), .bool v.isSome]) ∧ Below w.heap.size w w'
theorem trie_get {w : World} {g : Nat} {F : Nat → Prop} {N : Ad → Nat → Option Nat} {m : Ad → Nat → Option Int} {n : Int} (H : TrieN w g F N m n) (p : Pf) (hp : p.1.ok) :
    Calls Try.prog 34 #[.pointer (some ⟨g, 0, none⟩), .agg #[.int .u64 (p.1.1 : Int), .int .u64 (p.1.2 : Int), .int .i64 p.2]] w (GetPost w (getV m p)) := by
  have c1 := hid (trie_find (H.below ((Below.refl w.heap.size w).alloc (Nat.le_refl _) (.cells #[.int .u64 (p.1.1 : Int), .int .u64 (p.1.2 : Int), .int .i64 p.2] 26))) p hp)
  obtain ⟨q, hq⟩ : ∃ q, (if p.right then N p.1 p.2.toNat else none) = q := ⟨_, rfl⟩
  obtain ⟨v, hv⟩ : ∃ v, v = getV m p := ⟨_, rfl⟩
  rw [hq] at c1
  rw [← hv]
  have hfact : q = none ∧ v = none ∨ ∃ b, q = some b ∧ w.cell? ⟨b, 0, none⟩ = some (.bool v.isSome) ∧ w.cell? ⟨b, 1, none⟩ = some (.int .i64 (v.getD 0)) := by
    unfold getV at hv
    by_cases hr : p.right
    · rw [if_pos hr] at hq hv
      cases hN : N p.1 p.2.toNat with
      | none => left; rw [← hq, hN, hv]; exact ⟨rfl, H.val _ _ (Kok.of_right hp hr) hN⟩
      | some b =>
        right
        have hB := (H.node _ _ _ (Kok.of_right hp hr) hN).2
        refine ⟨b, by rw [← hq, hN], ?_, ?_⟩
        · rw [hv]; exact hB.cellv (i := 0) rfl
        · rw [hv]; exact hB.cellv (i := 1) rfl
    · rw [if_neg hr] at hq hv; left; exact ⟨hq.symm, hv⟩
  clear hq hv H hp
  obtain ⟨⟨a, b⟩, i⟩ := p
  rcases hfact with ⟨rfl, rfl⟩ | ⟨q, rfl, x0, x1⟩
  · go_enter Try.func34, Try.ntmps34
    go_wp2_with fail
    refine c1.out.mono ?_
    rintro _ w1 ⟨rfl, hb1⟩
    have hB := hid (Below.trans (b := _) ((Below.refl w.heap.size w).alloc (Nat.le_refl _) _) (hb1.mono (by simp)))
    clear hb1
    unfold ptrV
    go_wp2_with fail
    go_ret2
    exact ⟨rfl, hB.out⟩
  · cases v
    all_goals
      simp only [Option.isSome_none, Option.isSome_some, Option.getD_none, Option.getD_some] at x0 x1
      go_enter Try.func34, Try.ntmps34
      go_wp2_with fail
      refine c1.out.mono ?_
      rintro _ w1 ⟨rfl, hb1⟩
      have hB := (Below.trans (b := _) ((Below.refl w.heap.size w).alloc (Nat.le_refl _) _) (hb1.mono (by simp)))
      have x0 := (hB.cell (p := ⟨q, 0, none⟩) (World.block_lt_of_cell? w _ x0)).trans x0
      have x1 := (hB.cell (p := ⟨q, 1, none⟩) (World.block_lt_of_cell? w _ x1)).trans x1
      have HB := hid hB
      clear hb1 hB
      unfold ptrV
      go_wp2_with fail
      go_ret2
      exact ⟨rfl, HB.out⟩

theorem trie_len {w : World} {g : Nat} {F : Nat → Prop} {N : Ad → Nat → Option Nat} {m : Ad → Nat → Option Int} {n : Int} (H : TrieN w g F N m n) :
    Calls Try.prog 35 #[.pointer (some ⟨g, 0, none⟩)] w fun e w' => e = .returned (.int .i64 n) ∧ w = w' := by
  obtain ⟨v0, l0, r0, hTop⟩ := H.top
  have y4 := hTop.cellv (i := 4) rfl
  clear H hTop
  go_enter Try.func35, Try.ntmps35
  go_wp2_with fail
  go_ret
  exact ⟨rfl, rfl⟩

/-- What Delete leaves. -/
def DelPost (w : World) (g : Nat) (F : Nat → Prop) (m : Ad → Nat → Option Int) (n : Int) (p : Pf) (e : Ending) (w' : World) : Prop :=
  e = .returned (.tuple #[.int .i64 ((getV m p).getD 0), .bool (getV m p).isSome]) ∧ TrieNext w g F (if (getV m p).isSome then updN m p.1 p.2.toNat none else m) (if (getV m p).isSome then n - 1 else n) w'
theorem TrieNext.same {w w' : World} {g : Nat} {F : Nat → Prop} {N : Ad → Nat → Option Nat} {m : Ad → Nat → Option Int} {n : Int} (H : TrieN w g F N m n) (hb : Below w.heap.size w w') : TrieNext w g F m n w' :=
  ⟨F, N, H.below hb, Chg.of_below hb F, fun x hx => .inl hx⟩
theorem del_none {w w' : World} {g : Nat} {F : Nat → Prop} {N : Ad → Nat → Option Nat} {m : Ad → Nat → Option Int} {n : Int} (H : TrieN w g F N m n) (hb : Below w.heap.size w w') {p : Pf} (hv : getV m p = none) :
    DelPost w g F m n p (.returned (.tuple #[.int .i64 0, .bool false])) w' := by
  unfold DelPost; rw [hv]; exact ⟨rfl, TrieNext.same H hb⟩
theorem del_some {w w1 : World} {g q : Nat} {F : Nat → Prop} {N : Ad → Nat → Option Nat} {m : Ad → Nat → Option Int} {n : Int} (H : TrieN w g F N m n) (hb : Below w.heap.size w w1) {p : Pf} (hp : p.1.ok) (hr : p.right) (hN : N p.1 p.2.toNat = some q) {h : Int} (hv : getV m p = some h) :
    DelPost w g F m n p (.returned (.tuple #[.int .i64 h, .bool true])) (((w1.setCell ⟨q, 1, none⟩ (.int .i64 0)).setCell ⟨q, 0, none⟩ (.bool false)).setCell ⟨g, 4, none⟩ (.int .i64 (n - 1))) := by
  unfold DelPost; rw [hv]
  refine ⟨rfl, F, N, ?_, ?_, fun x hx => .inl hx⟩
  · exact ((H.below hb).set (Kok.of_right hp hr) hN none).setn (n - 1)
  · exact (((Chg.of_below hb F).setCell (fun _ => (H.node _ _ _ (Kok.of_right hp hr) hN).1) _).setCell (fun _ => (H.node _ _ _ (Kok.of_right hp hr) hN).1) _).setCell (fun _ => H.rootF) _

theorem trie_delete {w : World} {g : Nat} {F : Nat → Prop} {N : Ad → Nat → Option Nat} {m : Ad → Nat → Option Int} {n : Int} (H : TrieN w g F N m n) (h0 : 0 ≤ n) (h1 : n ≤ 4611686018427387904) (p : Pf) (hp : p.1.ok) :
    Calls Try.prog 28 #[.pointer (some ⟨g, 0, none⟩), .agg #[.int .u64 (p.1.1 : Int), .int .u64 (p.1.2 : Int), .int .i64 p.2]] w (DelPost w g F m n p) := by
  have c1 := hid (trie_find (H.below ((Below.refl w.heap.size w).alloc (Nat.le_refl _) (.cells #[.int .u64 (p.1.1 : Int), .int .u64 (p.1.2 : Int), .int .i64 p.2] 26))) p hp)
  obtain ⟨q, hq⟩ : ∃ q, (if p.right then N p.1 p.2.toNat else none) = q := ⟨_, rfl⟩
  obtain ⟨v, hv⟩ : ∃ v, v = getV m p := ⟨_, rfl⟩
  rw [hq] at c1
  have hfact : q = none ∧ v = none ∨ ∃ b, q = some b ∧ p.right ∧ N p.1 p.2.toNat = some b ∧ w.cell? ⟨b, 0, none⟩ = some (.bool v.isSome) ∧ w.cell? ⟨b, 1, none⟩ = some (.int .i64 (v.getD 0)) ∧ w.frozen? ⟨b, 0, none⟩ = false ∧ w.frozen? ⟨b, 1, none⟩ = false := by
    unfold getV at hv
    by_cases hr : p.right
    · rw [if_pos hr] at hq hv
      cases hN : N p.1 p.2.toNat with
      | none => left; rw [← hq, hN, hv]; exact ⟨rfl, H.val _ _ (Kok.of_right hp hr) hN⟩
      | some b =>
        right
        have hB := (H.node _ _ _ (Kok.of_right hp hr) hN).2
        refine ⟨b, by rw [← hq, hN], hr, rfl, ?_, ?_, hB.frozen 0, hB.frozen 1⟩
        · rw [hv]; exact hB.cellv (i := 0) rfl
        · rw [hv]; exact hB.cellv (i := 1) rfl
    · rw [if_neg hr] at hq hv; left; exact ⟨hq.symm, hv⟩
  obtain ⟨v0, l0, r0, hTop⟩ := H.top
  have y4 := hTop.cellv (i := 4) rfl
  have g4 := hTop.frozen 4
  have HT := hid H
  have HP := hid hp
  have HV := hid hv.symm
  clear hq hv H hp hTop
  obtain ⟨⟨a, b⟩, i⟩ := p
  rcases hfact with ⟨rfl, rfl⟩ | ⟨q, rfl, hr, hN, x0, x1, f0, f1⟩
  · go_enter Try.func28, Try.ntmps28
    go_wp2_with fail
    refine c1.out.mono ?_
    rintro _ w1 ⟨rfl, hb1⟩
    have hB := hid (Below.trans (b := _) ((Below.refl w.heap.size w).alloc (Nat.le_refl _) _) (hb1.mono (by simp)))
    clear hb1
    unfold ptrV
    go_wp2_with fail
    go_ret2
    exact del_none HT.out hB.out HV.out
  · have HR := hid hr
    have HN := hid hN
    clear hr hN
    have hbg : q = g ∨ q ≠ g := by omega
    rcases hbg with rfl | hbg <;> cases v
    all_goals
      simp only [Option.isSome_none, Option.isSome_some, Option.getD_none, Option.getD_some] at x0 x1
      go_enter Try.func28, Try.ntmps28
      go_wp2_with fail
      refine c1.out.mono ?_
      rintro _ w1 ⟨rfl, hb1⟩
      have hB := (Below.trans (b := _) ((Below.refl w.heap.size w).alloc (Nat.le_refl _) _) (hb1.mono (by simp)))
      have x0 := (hB.cell (p := ⟨q, 0, none⟩) (World.block_lt_of_cell? w _ x0)).trans x0
      have x1' := (hB.cell (p := ⟨q, 1, none⟩) (World.block_lt_of_cell? w _ x1)).trans x1
      have hql : q < w.heap.size := World.block_lt_of_cell? w ⟨q, 1, none⟩ x1
      have f0' := (hB.frozen (p := ⟨q, 0, none⟩) hql).trans f0
      have f1' := (hB.frozen (p := ⟨q, 1, none⟩) (World.block_lt_of_cell? w _ x1)).trans f1
      have y4' := (hB.cell (p := ⟨_, 4, none⟩) (World.block_lt_of_cell? w _ y4)).trans y4
      have g4' := (hB.frozen (p := ⟨_, 4, none⟩) (World.block_lt_of_cell? w _ y4)).trans g4
      have HB := hid hB
      clear hb1 hB x1 f0 f1 y4 g4
      unfold ptrV
      go_wp2_with fail
      go_ret2
      first
        | exact del_none HT.out HB.out HV.out
        | exact del_some HT.out HB.out HP.out HR.out HN.out HV.out

end Go.Proofs.Ytjhgmjfjlndomaa
