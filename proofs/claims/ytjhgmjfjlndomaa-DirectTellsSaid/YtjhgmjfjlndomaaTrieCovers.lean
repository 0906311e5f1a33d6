/-
  The walk of the law TrieCovers, and of the example of package trie: for all inputs it returns true and leaves memory alone. No condition.
-/
import Derived.Test.YtjhgmjfjlndomaaTrieBet
namespace Go.Proofs.Ytjhgmjfjlndomaa
open Go.RowKit
set_option linter.unusedVariables false
set_option linter.unusedSimpArgs false
set_option maxRecDepth 100000
attribute [local go_sem high] eq_ad eq_pf eq_rt

def putM (m : Ad → Nat → Option Int) (p : Pf) (hop : Int) : Ad → Nat → Option Int := if p.right then updN m p.1 p.2.toNat (some hop) else m
def putC (m : Ad → Nat → Option Int) (p : Pf) (n : Int) : Int := if p.right then (if (m p.1 p.2.toNat).isSome then n else n + 1) else n
theorem putC_le (m : Ad → Nat → Option Int) (p : Pf) (n : Int) : n ≤ putC m p n ∧ putC m p n ≤ n + 1 := by unfold putC; split <;> (try split) <;> omega
def PutAll (w : World) (g : Nat) (F : Nat → Prop) (m : Ad → Nat → Option Int) (n : Int) (p : Pf) (hop : Int) (e : Ending) (w' : World) : Prop :=
  e = .returned (.tuple #[.int .i64 ((getV m p).getD 0), .bool (getV m p).isSome]) ∧ TrieNext w g F (putM m p hop) (putC m p n) w'
theorem trie_put {w : World} {g : Nat} {F : Nat → Prop} {N : Ad → Nat → Option Nat} {m : Ad → Nat → Option Int} {n : Int} (H : TrieN w g F N m n) (h0 : 0 ≤ n) (h1 : n ≤ 4611686018427387904) (p : Pf) (hp : p.1.ok) (hop : Int) :
    Calls Try.prog 26 #[.pointer (some ⟨g, 0, none⟩), .agg #[.int .u64 (p.1.1 : Int), .int .u64 (p.1.2 : Int), .int .i64 p.2], .int .i64 hop] w (PutAll w g F m n p hop) := by
  by_cases hr : p.right
  · refine (trie_put_yes H h0 h1 p hp hop hr).mono fun e w' ⟨he, hn⟩ => ?_
    unfold PutAll getV putM putC
    rw [if_pos hr, if_pos hr, if_pos hr]
    exact ⟨he, hn⟩
  · refine (trie_put_no p hp hop hr).mono fun e w' ⟨he, hb⟩ => ?_
    unfold PutAll getV putM putC
    rw [if_neg hr, if_neg hr, if_neg hr]
    exact ⟨he, TrieNext.same H hb⟩

theorem trie_alive (w : World) : Calls Try.prog 25 #[] w fun e w' => e = .returned (.bool true) ∧ Below w.heap.size w w' := by
  have ok0 : Ad.ok (0, 0) := ⟨by decide, by decide⟩
  have ok9 : Ad.ok (0, 9) := ⟨by decide, by decide⟩
  have hr0 : Pf.right ((0, 0), 0) := by decide
  have H0 := TrieN.new w
  have c1 := hid (trie_len H0)
  have c2 := hid (trie_put_yes H0 (by omega) (by omega) ((0, 0), 0) ok0 4 hr0)
  have hbest : bestT (updN (fun _ _ => none) (0, 0) 0 (some 4)) (0, 9) (-1) 129 = some (0, 4) := by
    rw [bestT_none (k := 1) (by omega) (fun j h1 h2 => updN_ne _ _ (by omega))]
    rfl
  have c3 := hid fun (w1 : World) (F : Nat → Prop) (N : Ad → Nat → Option Nat) (h : TrieN w1 w.heap.size F N (updN (fun _ _ => none) (0, 0) 0 (some 4)) 1) =>
    trie_longest' h (0, 9) ok9 _ hbest (((0, 0), 0), 4) true rfl rfl
  clear hbest H0 hr0 ok9 ok0
  go_enter Try.func25, Try.ntmps25
  go_wp2_with fail
  refine c1.out.mono ?_
  rintro _ w1 ⟨rfl, rfl⟩
  go_wp2_with fail
  refine c2.out.mono ?_
  rintro _ w2 ⟨rfl, F2, N2, hT, hC, hF⟩
  have HT := hid hT
  have HB := hid (Below.trans (b := _) ((Below.refl w.heap.size w).alloc (Nat.le_refl _) (.cells #[.bool false, .int .i64 0, .pointer none, .pointer none, .int .i64 0] 47)) (hC.below (by simp) (fun i hi h => by omega)))
  clear hT hC hF
  go_wp2_with fail
  refine (c3.out w2 F2 N2 HT.out).mono ?_
  rintro _ w3 ⟨rfl, hb3⟩
  have HT3 := hid (HT.out.below (hb3.trans ((Below.refl w3.heap.size w3).alloc (Nat.le_refl _) (.cells #[.int .u64 0, .int .u64 0, .int .i64 0, .int .i64 4] 51) |>.mono hb3.size)))
  have HB3 := hid ((held_next HB.out hb3).alloc (held_next HB.out hb3).size (.cells #[.int .u64 0, .int .u64 0, .int .i64 0, .int .i64 4] 51))
  clear hb3
  go_wp2_with fail
  refine (trie_len HT3.out).mono ?_
  rintro _ w4 ⟨rfl, rfl⟩
  go_wp2_with fail
  go_ret
  exact ⟨rfl, HB3.out⟩

theorem bestT_all {m : Ad → Nat → Option Int} {a : Ad} {low : Int} : ∀ {K : Nat}, bestT m a low K = none → ∀ k, k < K → low < (k : Int) → m (a.cut k) k = none
  | 0, _, k, hk, _ => by omega
  | K + 1, e, k, hk, hl => by
    unfold bestT at e
    by_cases h1 : low < (K : Int)
    · rw [if_pos h1] at e
      cases h2 : m (a.cut K) K with
      | some h => rw [h2] at e; cases e
      | none =>
        rw [h2] at e
        by_cases h3 : k = K
        · subst h3; exact h2
        · exact bestT_all e k (by omega) hl
    · rw [if_neg h1] at e; exact bestT_all e k (by omega) hl
theorem bestT_lower {m : Ad → Nat → Option Int} {a : Ad} {low mid : Int} (h : low ≤ mid) {x : Nat × Int} : ∀ {K : Nat}, bestT m a mid K = some x → bestT m a low K = some x
  | 0, e => by simp [bestT] at e
  | K + 1, e => by
    unfold bestT at e ⊢
    by_cases h1 : mid < (K : Int)
    · rw [if_pos h1] at e
      rw [if_pos (by omega)]
      cases h2 : m (a.cut K) K with
      | some h' => rw [h2] at e; exact e
      | none => rw [h2] at e; exact bestT_lower h e
    · rw [if_neg h1] at e
      have e' := bestT_lt e
      omega
theorem bestT_ext {m : Ad → Nat → Option Int} {a : Ad} {low : Int} {k : Nat} : ∀ {K : Nat}, k ≤ K → (∀ j, k ≤ j → j < K → low < (j : Int) → m (a.cut j) j = none) → bestT m a low K = bestT m a low k
  | 0, hk, _ => by obtain rfl : k = 0 := by omega
                   rfl
  | K + 1, hk, h => by
    by_cases e : k = K + 1
    · rw [e]
    · rw [bestT, bestT_ext (show k ≤ K by omega) (fun j h1 h2 h3 => h j h1 (by omega) h3)]
      split
      · rename_i h1; rw [h K (by omega) (by omega) h1]
      · rfl
theorem cover_split {m : Ad → Nat → Option Int} {p : Pf} {low mid high : Int} (h1 : low ≤ mid) (h2 : mid ≤ high) :
    (∃ x, coverT m p mid high = some x ∧ coverT m p low high = some x) ∨ (coverT m p mid high = none ∧ coverT m p low high = coverT m p low mid) := by
  unfold coverT
  by_cases hr : p.right
  · rw [if_pos hr, if_pos hr, if_pos hr]
    cases e : bestT m p.1 mid (btK (min high p.2)) with
    | some x => exact .inl ⟨x, rfl, bestT_lower h1 e⟩
    | none =>
      right
      refine ⟨rfl, bestT_ext (by unfold btK; omega) fun j hj1 hj2 hj3 => bestT_all e j hj2 ?_⟩
      unfold btK at hj1 hj2
      omega
  · rw [if_neg hr, if_neg hr, if_neg hr]; exact .inr ⟨rfl, rfl⟩

def CovLoop (W : World) (g : Nat) (L : Nat) (p : Pf) (i : Value) (wr : World) : Prop :=
  ∃ (k : Nat) (F : Nat → Prop) (N : Ad → Nat → Option Nat) (m : Ad → Nat → Option Int) (n : Int), k ≤ L ∧ i = .int .i64 k ∧ TrieN wr g F N m n ∧ 0 ≤ n ∧ n ≤ k ∧ (∀ x, F x → W.heap.size < x) ∧
    Blk wr W.heap.size 26 [.int .u64 (p.1.1 : Int), .int .u64 (p.1.2 : Int), .int .i64 p.2] ∧ Below W.heap.size W wr

theorem trieCovers_out (W : World) (A : Option Addr) (cap : Nat) (l : List Rt) (hl : l.length ≤ cap) (hc : cap ≤ maxLen) (p : Pf) (low mid high : Int) (h : ¬ (l.length ≤ 40 ∧ low ≤ mid ∧ mid ≤ high)) :
    Calls Try.prog 6 #[.slice A l.length cap, .agg #[.int .u64 (p.1.1 : Int), .int .u64 (p.1.2 : Int), .int .i64 p.2], .int .i64 low, .int .i64 mid, .int .i64 high] W fun e W' => e = .returned (.bool true) ∧ Below W.heap.size W W' := by
  unfold maxLen at hc
  obtain ⟨⟨x, y⟩, i⟩ := p
  go_enter Try.func6, Try.ntmps6
  go_wp2_with fail
  refine (trie_alive _).mono ?_
  rintro e w1 ⟨rfl, hb⟩
  have hb' := hid (Below.trans (b := _) ((Below.refl W.heap.size W).alloc (Nat.le_refl _) _) (hb.mono (by simp)))
  clear hb
  go_wp2_with fail
  all_goals (go_ret; exact ⟨rfl, hb'.out⟩)

set_option maxHeartbeats 1000000 in
theorem trieCovers_in (W : World) (A : Option Addr) (cap : Nat) (l : List Rt) (hl : l.length ≤ cap) (hc : cap ≤ maxLen) (hr : RowAt rtEn 4 W A l) (hok : ∀ x ∈ l, Rt.fit x) (p : Pf) (hp : p.fit) (low mid high : Int) (h40 : l.length ≤ 40) (h1 : low ≤ mid) (h2 : mid ≤ high) :
    Calls Try.prog 6 #[.slice A l.length cap, .agg #[.int .u64 (p.1.1 : Int), .int .u64 (p.1.2 : Int), .int .i64 p.2], .int .i64 low, .int .i64 mid, .int .i64 high] W fun e W' => e = .returned (.bool true) ∧ Below W.heap.size W W' := by
  have hgr := guard_rt
  have HR := hid fun k x (h : l[k]? = some x) => hr.cell rtEn_length h
  have HOK := hid fun k x (h : l[k]? = some x) => hok x (List.mem_of_getElem? h)
  have HP := hid hp
  have HSP := hid fun (m : Ad → Nat → Option Int) => cover_split (m := m) (p := p) h1 h2
  unfold maxLen at hc
  obtain ⟨L, hL⟩ : ∃ L, l.length = L := ⟨_, rfl⟩
  have HL := hid hL
  rw [hL] at hl h40 ⊢
  clear hr hok hp hL
  obtain ⟨⟨x, y⟩, i⟩ := p
  go_enter Try.func6, Try.ntmps6
  go_wp2_with fail
  refine (trie_alive _).mono ?_
  rintro e w1 ⟨rfl, hb⟩
  have hB := hid (Below.trans (b := _) ((Below.refl W.heap.size W).alloc (Nat.le_refl _) (.cells #[.int .u64 (x : Int), .int .u64 (y : Int), .int .i64 i] 26)) (hb.mono (by simp)))
  have hX := hid ((Blk.new_at W #[.int .u64 (x : Int), .int .u64 (y : Int), .int .i64 i] 26 W.heap.size rfl).below' hb)
  have hlt1 := hX.out.lt
  clear hb
  go_wp2_with fail
  go_loopw [13] (fun i' wr => CovLoop W w1.heap.size L ((x, y), i) i' wr) (fun i' _ => L - (intOf i').toNat)
  case atStart =>
    exact ⟨0, _, _, _, 0, Nat.zero_le _, rfl, TrieN.new w1, by omega, by omega, fun z hz => by omega, hX.out.alloc _, hB.out.alloc hB.out.size _⟩
  case round =>
    clear hX hB
    obtain ⟨k, F, N, m, n, hk, rfl, hT, hn0, hn1, hF, hX, hB⟩ := hrel
    have HT := hid hT
    have HF := hid hF
    have HX := hid hX
    have HB := hid hB
    by_cases hlt : k < L
    · have hget : l[k]? = some (l[k]'(by rw [HL.out]; exact hlt)) := List.getElem?_eq_getElem _
      generalize l[k]'_ = r at hget
      have hfit := hid (HOK.out k r hget)
      obtain ⟨b, o, rfl, hcell⟩ := HR.out k r hget
      have y0 : wr.cell? ⟨b, o + k * 4, none⟩ = some (.int .u64 (r.1.1.1 : Int)) := hcell wr hB 0 _ rfl
      have y1 : wr.cell? ⟨b, o + k * 4 + 1, none⟩ = some (.int .u64 (r.1.1.2 : Int)) := hcell wr hB 1 _ rfl
      have y2 : wr.cell? ⟨b, o + k * 4 + 2, none⟩ = some (.int .i64 r.1.2) := hcell wr hB 2 _ rfl
      have y3 : wr.cell? ⟨b, o + k * 4 + 3, none⟩ = some (.int .i64 r.2) := hcell wr hB 3 _ rfl
      obtain ⟨⟨⟨rx, ry⟩, ri⟩, rh⟩ := r
      have cp := hid (trie_put hT.drew hn0 (by omega) ((rx, ry), ri) hfit.out.1.1 rh)
      clear hcell hget hT hF hX hB
      go_wp2_with fail
      refine wp_region_tail 11 (by kernel_rfl) (by kernel_rfl) ?_
      simp only [List.take_succ_cons, List.take_zero, List.drop_succ_cons, List.drop_zero]
      repeat still_step
      refine wpStill_nil ?_
      go_wp2_with fail
      refine cp.out.mono ?_
      rintro _ w3 ⟨rfl, F', N', hT3, hC3, hF3⟩
      have hC3' : Chg F wr w3 := ((Chg.refl F wr).drew).trans' hC3
      have hle := putC_le m ((rx, ry), ri) n
      have HX3 := hid (HX.out.chg hC3' (fun h => by have := HF.out _ h; omega))
      have HB3 := hid (HB.out.trans (hC3'.below HB.out.size (fun q hq h => by have := HF.out _ h; omega)))
      have HT3 := hid hT3
      have HF3 := hid (fun z hz => (hF3 z hz).elim (fun h => HF.out z h) (fun h => by have := HX.out.lt; simp at h; omega))
      generalize putC m ((rx, ry), ri) n = n' at HT3 hle
      clear hC3 hC3' hT3 hF3 y0 y1 y2 y3 HX HB HT HF cp
      go_wp2_with fail
      go_roundw
      case rel => exact ⟨k + 1, F', N', _, n', by omega, by go_num, HT3.out, by omega, by omega, HF3.out, HX3.out, HB3.out⟩
      case measure => simp [intOf]; omega
    · have hkL : k = L := by omega
      have hsp := HSP.out m
      have c1 := hid fun (w2 : World) (h : Below wr.heap.size wr w2) lo hi v hv r f hr hf => trie_cover' (HT.out.below h) ((x, y), i) HP.out.1 lo hi v hv r f hr hf
      have p0 := hX.cellv (i := 0) rfl
      have p1 := hX.cellv (i := 1) rfl
      have p2 := hX.cellv (i := 2) rfl
      have hcase : ∃ (r1 r2 r3 : Rt) (f1 f2 f3 : Bool) (v1 v2 v3 : Option (Nat × Int)), coverT m ((x, y), i) low high = v1 ∧ coverT m ((x, y), i) mid high = v2 ∧ coverT m ((x, y), i) low mid = v3 ∧
          btR (x, y) v1 = r1 ∧ btR (x, y) v2 = r2 ∧ btR (x, y) v3 = r3 ∧ v1.isSome = f1 ∧ v2.isSome = f2 ∧ v3.isSome = f3 ∧ ((f2 = true ∧ f1 = true ∧ r1 = r2) ∨ (f2 = false ∧ f1 = f3 ∧ r1 = r3)) := by
        refine ⟨_, _, _, _, _, _, _, _, _, rfl, rfl, rfl, rfl, rfl, rfl, rfl, rfl, rfl, ?_⟩
        rcases hsp with ⟨z, e1, e2⟩ | ⟨e1, e2⟩
        · left; rw [e1, e2]; exact ⟨rfl, rfl, rfl⟩
        · right; rw [e1, e2]; exact ⟨rfl, rfl, rfl⟩
      obtain ⟨r1, r2, r3, f1, f2, f3, v1, v2, v3, e1, e2, e3, g1, g2, g3, h1, h2, h3, hrel⟩ := hcase
      have d1 := hid fun (w2 : World) (h : Below wr.heap.size wr w2) => c1.out w2 h low high v1 e1 r1 f1 g1 h1
      have d2 := hid fun (w2 : World) (h : Below wr.heap.size wr w2) => c1.out w2 h mid high v2 e2 r2 f2 g2 h2
      have d3 := hid fun (w2 : World) (h : Below wr.heap.size wr w2) => c1.out w2 h low mid v3 e3 r3 f3 g3 h3
      have q1 := rt_beq r1 r2
      have q2 := rt_beq r1 r3
      have hLb : L ≤ 40 := h40
      have b1 : decide ((40 : Int) < (L : Int)) = false := decide_eq_false (by omega)
      have HREL := hid hrel
      have Q1 := hid q1
      have Q2 := hid q2
      clear hrel q1 q2 hsp HSP c1 e1 e2 e3 g1 g2 g3 h1 h2 h3 hX hB hT hF HT hkL
      obtain ⟨⟨⟨r1x, r1y⟩, r1i⟩, r1h⟩ := r1
      obtain ⟨⟨⟨r2x, r2y⟩, r2i⟩, r2h⟩ := r2
      obtain ⟨⟨⟨r3x, r3y⟩, r3i⟩, r3h⟩ := r3
      go_wp2_with fail
      refine (d1.out wr (Below.refl _ _)).mono ?_
      rintro _ w2 ⟨rfl, hb2⟩
      have X2 := hid ((HX.out.below' hb2).alloc (.cells #[.int .u64 (r1x : Int), .int .u64 (r1y : Int), .int .i64 r1i, .int .i64 r1h] 51))
      have R1 := hid (Blk.new_at w2 #[.int .u64 (r1x : Int), .int .u64 (r1y : Int), .int .i64 r1i, .int .i64 r1h] 51 w2.heap.size rfl)
      have B2 := hid (hb2.alloc hb2.size (.cells #[.int .u64 (r1x : Int), .int .u64 (r1y : Int), .int .i64 r1i, .int .i64 r1h] 51))
      have hl2 : W.heap.size < w2.heap.size := Nat.lt_of_lt_of_le HX.out.lt hb2.size
      clear hb2 p0 p1 p2
      have p0 := X2.out.cellv (i := 0) rfl
      have p1 := X2.out.cellv (i := 1) rfl
      have p2 := X2.out.cellv (i := 2) rfl
      go_wp2_with fail
      refine (d2.out _ B2.out).mono ?_
      rintro _ w3 ⟨rfl, hb3⟩
      have X3 := hid ((X2.out.below' hb3).alloc (.cells #[.int .u64 (r2x : Int), .int .u64 (r2y : Int), .int .i64 r2i, .int .i64 r2h] 51))
      have R13 := hid ((R1.out.below' hb3).alloc (.cells #[.int .u64 (r2x : Int), .int .u64 (r2y : Int), .int .i64 r2i, .int .i64 r2h] 51))
      have R2 := hid (Blk.new_at w3 #[.int .u64 (r2x : Int), .int .u64 (r2y : Int), .int .i64 r2i, .int .i64 r2h] 51 w3.heap.size rfl)
      have B3 := hid ((held_next B2.out hb3).alloc (held_next B2.out hb3).size (.cells #[.int .u64 (r2x : Int), .int .u64 (r2y : Int), .int .i64 r2i, .int .i64 r2h] 51))
      have hl3 : W.heap.size < w3.heap.size := by have := hb3.size; simp at this; omega
      clear hb3 p0 p1 p2 X2 R1 B2
      have p0 := X3.out.cellv (i := 0) rfl
      have p1 := X3.out.cellv (i := 1) rfl
      have p2 := X3.out.cellv (i := 2) rfl
      go_wp2_with fail
      refine (d3.out _ B3.out).mono ?_
      rintro _ w4 ⟨rfl, hb4⟩
      have R14 := hid ((R13.out.below' hb4).alloc (.cells #[.int .u64 (r3x : Int), .int .u64 (r3y : Int), .int .i64 r3i, .int .i64 r3h] 51))
      have R24 := hid ((R2.out.below' hb4).alloc (.cells #[.int .u64 (r3x : Int), .int .u64 (r3y : Int), .int .i64 r3i, .int .i64 r3h] 51))
      have hl4 : w2.heap.size < w4.heap.size := (R13.out.below' hb4).lt
      have hl5 : w3.heap.size < w4.heap.size := (R2.out.below' hb4).lt
      have B4 := hid (HB.out.trans (((held_next B3.out hb4).alloc (held_next B3.out hb4).size (.cells #[.int .u64 (r3x : Int), .int .u64 (r3y : Int), .int .i64 r3i, .int .i64 r3h] 51)).mono HB.out.size))
      clear hb4 p0 p1 p2 X3 R13 R2 B3
      have o0 := R14.out.cellv (i := 0) rfl
      have o1 := R14.out.cellv (i := 1) rfl
      have o2 := R14.out.cellv (i := 2) rfl
      have o3 := R14.out.cellv (i := 3) rfl
      have u0 := R24.out.cellv (i := 0) rfl
      have u1 := R24.out.cellv (i := 1) rfl
      have u2 := R24.out.cellv (i := 2) rfl
      have u3 := R24.out.cellv (i := 3) rfl
      rcases HREL.out with ⟨rfl, rfl, hr⟩ | ⟨rfl, rfl, hr⟩
      · have q1 := Q1.out
        rw [decide_eq_true hr] at q1
        clear hr
        go_wp2_with fail
        go_ret
        exact ⟨rfl, B4.out⟩
      · have q2 := Q2.out
        rw [decide_eq_true hr] at q2
        clear hr
        cases f1
        all_goals
          go_wp2_with fail
          go_ret
          exact ⟨rfl, B4.out⟩

theorem trieCovers_walk (W : World) (v : Value) (l : List Rt) (hR : Rd rtEn 4 W v l) (hok : ∀ x ∈ l, Rt.fit x) (p : Pf) (hp : p.fit) (low : Int) (wl : (Lit.int .i64 low).wf = true) (mid : Int) (wm : (Lit.int .i64 mid).wf = true) (high : Int) (wh : (Lit.int .i64 high).wf = true) :
    Calls Try.prog 6 #[v, .agg #[.int .u64 (p.1.1 : Int), .int .u64 (p.1.2 : Int), .int .i64 p.2], .int .i64 low, .int .i64 mid, .int .i64 high] W fun e W' => e = .returned (.bool true) ∧ Below W.heap.size W W' := by
  obtain ⟨A, cap, rfl, hl, hc, hr, _⟩ := hR
  by_cases h : l.length ≤ 40 ∧ low ≤ mid ∧ mid ≤ high
  · exact trieCovers_in W A cap l hl hc hr hok p hp low mid high h.1 h.2.1 h.2.2
  · exact trieCovers_out W A cap l hl hc p low mid high h

end Go.Proofs.Ytjhgmjfjlndomaa
