/-
  Contracts of Of and At in package cover: a trie of routes, and the hop that it tells of a key. No condition but that words are words.
-/
import Derived.Test.YtcchjljdhjkmeaaSorted
namespace Go.Proofs.Ytcchjljdhjkmeaa
open Go.RowKit
set_option linter.unusedVariables false
set_option linter.unusedSimpArgs false
set_option maxRecDepth 100000
attribute [local go_sem high] eq_ad eq_pf eq_rt

def OfPost (w : World) (l : List Rt) (e : Ending) (w' : World) : Prop :=
  ∃ (g : Nat) (F : Nat → Prop) (N : Ad → Nat → Option Nat) (n : Int), e = .returned (.pointer (some ⟨g, 0, none⟩)) ∧ TrieN w' g F N (ofM l) n ∧ 0 ≤ n ∧ n ≤ (l.length : Int) ∧ (∀ x, F x → w.heap.size ≤ x) ∧ Below w.heap.size w w'
def OfRel (w : World) (l : List Rt) (i : Value) (wr : World) : Prop :=
  ∃ (k : Nat) (F : Nat → Prop) (N : Ad → Nat → Option Nat) (n : Int), k ≤ l.length ∧ i = .int .i64 k ∧ TrieN wr w.heap.size F N (ofM (l.take k)) n ∧ 0 ≤ n ∧ n ≤ (k : Int) ∧ (∀ x, F x → w.heap.size ≤ x) ∧ Below w.heap.size w wr
theorem cover_of (w : World) (v : Value) (l : List Rt) (hR : Rd rtEn 4 w v l) (hok : ∀ r ∈ l, r.1.1.ok) (hlen : l.length ≤ 4611686018427387904) : Calls Try.prog 45 #[v] w (OfPost w l) := by
  have HR := hid fun k x (h : l[k]? = some x) => hR.get rtEn_length (by decide) h
  have HOK := hid fun (k : Nat) (x : Rt) (h : l[k]? = some x) => hok x (List.mem_of_getElem? h)
  obtain ⟨A, cap, rfl, n1, m1⟩ := hR.form
  unfold maxLen at m1
  clear hR hok
  go_enter Try.func45, Try.ntmps45
  go_wp2_with fail
  go_loopw [10] (fun i wr => OfRel w l i wr) (fun i _ => l.length - (intOf i).toNat)
  case atStart => exact ⟨0, _, _, 0, Nat.zero_le _, rfl, TrieN.new w, Int.le_refl _, Int.le_refl _, fun x hx => by omega, (Below.refl _ _).alloc (Nat.le_refl _) _⟩
  case round =>
    obtain ⟨k, F, N, n, hk, rfl, hT, h0, hn, hF, hB⟩ := hrel
    have HT := hid hT
    have HF := hid hF
    have HB := hid hB
    by_cases hlt : k < l.length
    · have hget : l[k]? = some l[k] := List.getElem?_eq_getElem _
      generalize l[k] = r at hget
      have hrok := hid (HOK.out k r hget)
      obtain ⟨ba, oa, ca, hv, _, _, la, sa⟩ := HR.out k r hget
      injection hv with hA hx hc
      subst hA hc
      clear hx
      have y0 : wr.cell? ⟨ba, oa + k * 4, none⟩ = some (.int .u64 (r.1.1.1 : Int)) := (hB.cell (p := ⟨ba, oa + k * 4, none⟩) la).trans (sa 0 _ rfl)
      have y1 : wr.cell? ⟨ba, oa + k * 4 + 1, none⟩ = some (.int .u64 (r.1.1.2 : Int)) := (hB.cell (p := ⟨ba, oa + k * 4 + 1, none⟩) la).trans (sa 1 _ rfl)
      have y2 : wr.cell? ⟨ba, oa + k * 4 + 2, none⟩ = some (.int .i64 r.1.2) := (hB.cell (p := ⟨ba, oa + k * 4 + 2, none⟩) la).trans (sa 2 _ rfl)
      have y3 : wr.cell? ⟨ba, oa + k * 4 + 3, none⟩ = some (.int .i64 r.2) := (hB.cell (p := ⟨ba, oa + k * 4 + 3, none⟩) la).trans (sa 3 _ rfl)
      have HS := hid (ofM_snoc hget)
      obtain ⟨⟨⟨x, y⟩, i⟩, h⟩ := r
      have c1 := hid (trie_put (hT.below ((Below.refl wr.heap.size wr).alloc (Nat.le_refl _) (.cells #[.int .u64 (x : Int), .int .u64 (y : Int), .int .i64 i, .int .i64 h] 39))) h0 (by omega) ((x, y), i) hrok.out h)
      clear sa hget hT hF hB
      go_wp2_with fail
      refine c1.out.mono ?_
      rintro _ w1 ⟨rfl, F', N', hT1, hC1, hF1⟩
      rw [← HS.out] at hT1
      have hle := putC_le (ofM (l.take k)) ((x, y), i) n
      have HT1 := hid hT1
      have HB1 := hid (HB.out.trans ((((Chg.refl F wr).alloc _).trans' hC1).below HB.out.size (fun z hz hf => by have := HF.out z hf; omega)))
      have HF1 := hid (show ∀ z, F' z → w.heap.size ≤ z from fun z hz => (hF1 z hz).elim (fun hf => HF.out z hf) (fun hs => by have := HB.out.size; simp at hs; omega))
      generalize putC (ofM (l.take k)) ((x, y), i) n = n' at HT1 hle
      clear hT1 hC1 hF1 c1 HS y0 y1 y2 y3
      go_wp2_with fail
      go_roundw
      case rel => exact ⟨k + 1, F', N', n', by omega, by go_num, HT1.out, by omega, by omega, HF1.out, HB1.out⟩
      case measure => simp [intOf]; omega
    · have hkk := hid (show l.take k = l from List.take_of_length_le (by omega))
      clear hT hF hB
      go_wp2_with fail
      go_ret
      refine ⟨w.heap.size, F, N, n, rfl, ?_, h0, by omega, HF.out, HB.out⟩
      have h := HT.out
      rw [hkk.out] at h
      exact h

/-- The hop that a table tells of a key. -/
def atV (m : Ad → Nat → Option Int) (k : Pf) (low : Int) : Option Int := (bestT m k.1 low (btK k.2)).map (·.2)
def AtPost (w : World) (v : Option Int) (e : Ending) (w' : World) : Prop := e = .returned (.tuple #[.int .i64 (v.getD 0), .bool v.isSome]) ∧ Below w.heap.size w w'
theorem btK_min (x : Int) : btK (min x 128) = btK x := by unfold btK; rw [show min (min x 128) 128 = min x 128 by omega]
theorem cover_at {w : World} {g : Nat} {F : Nat → Prop} {N : Ad → Nat → Option Nat} {m : Ad → Nat → Option Int} {n : Int} (H : TrieN w g F N m n) (k : Pf) (hk : k.1.ok) (low : Int) :
    Calls Try.prog 50 #[.pointer (some ⟨g, 0, none⟩), .agg #[.int .u64 (k.1.1 : Int), .int .u64 (k.1.2 : Int), .int .i64 k.2], .int .i64 low] w (AtPost w (atV m k low)) := by
  have c1 := hid (trie_between (H.below ((Below.refl w.heap.size w).alloc (Nat.le_refl _) (.cells #[.int .u64 (k.1.1 : Int), .int .u64 (k.1.2 : Int), .int .i64 k.2] 37))) k.1 hk low (min k.2 128))
  have hmin := min_at .i64 k.2 128 (min k.2 128) (by split <;> omega)
  rw [btK_min] at c1
  unfold atV
  generalize bestT m k.1 low (btK k.2) = b at c1 ⊢
  obtain ⟨r, hr⟩ : ∃ r, btR k.1 b = r := ⟨_, rfl⟩
  have HE : AtPost w (b.map (·.2)) = fun e w' => e = .returned (.tuple #[.int .i64 r.2, .bool b.isSome]) ∧ Below w.heap.size w w' := by
    funext e w'
    unfold AtPost
    rw [← hr]
    cases b <;> rfl
  rw [HE]
  obtain ⟨f, hf⟩ : ∃ f, b.isSome = f := ⟨_, rfl⟩
  unfold BetPost at c1
  rw [hr, hf] at c1
  rw [hf]
  clear hr HE hf H hk
  generalize min k.2 128 = hi at c1 hmin
  obtain ⟨⟨x, y⟩, i⟩ := k
  obtain ⟨⟨⟨rx, ry⟩, ri⟩, rh⟩ := r
  have hR0 : (rtPair ((((rx, ry), ri), rh) : Rt) f) = .tuple #[.agg #[.int .u64 (rx : Int), .int .u64 (ry : Int), .int .i64 ri, .int .i64 rh], .bool f] := rfl
  rw [hR0] at c1
  clear hR0
  go_enter Try.func50, Try.ntmps50
  go_wp2_with fail
  refine c1.out.mono ?_
  rintro _ w1 ⟨rfl, hb⟩
  have HB := hid ((Below.trans (b := _) ((Below.refl w.heap.size w).alloc (Nat.le_refl _) (.cells #[.int .u64 (x : Int), .int .u64 (y : Int), .int .i64 i] 37)) (hb.mono (by simp))))
  have hs : w.heap.size < w1.heap.size := by have := hb.size; simp at this; omega
  clear hb c1
  go_wp2_with fail
  go_ret2
  exact ⟨rfl, HB.out.alloc (by omega) _⟩

end Go.Proofs.Ytcchjljdhjkmeaa
