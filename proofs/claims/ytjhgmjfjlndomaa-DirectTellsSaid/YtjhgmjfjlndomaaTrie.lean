/-
  Contracts of package trie's functions over a trie in memory. No condition but that words are words.
-/
import Derived.Test.YtjhgmjfjlndomaaTrieM
import Derived.Test.YtjhgmjfjlndomaaSame
import Derived.WalkSpells
namespace Go.Proofs.Ytjhgmjfjlndomaa
open Go.RowKit
set_option linter.unusedVariables false
set_option linter.unusedSimpArgs false
set_option maxRecDepth 100000
attribute [local go_sem high] eq_ad eq_pf eq_rt

def FindLoop (w : World) (p : Ad) (L : Nat) (N : Ad → Nat → Option Nat) (x i : Value) (wr : World) : Prop :=
  ∃ k : Nat, k ≤ L ∧ i = .int .i64 k ∧ x = ptrV (N (p.cut k) k) ∧ Blk wr w.heap.size 26 [.int .u64 (p.1 : Int), .int .u64 (p.2 : Int), .int .i64 (L : Int)] ∧ Below w.heap.size w wr

theorem trie_find {w : World} {g : Nat} {F : Nat → Prop} {N : Ad → Nat → Option Nat} {m : Ad → Nat → Option Int} {n : Int} (H : TrieN w g F N m n) (p : Pf) (hp : p.1.ok) :
    Calls Try.prog 60 #[.pointer (some ⟨g, 0, none⟩), .agg #[.int .u64 (p.1.1 : Int), .int .u64 (p.1.2 : Int), .int .i64 p.2], .bool false] w fun e w' =>
      e = .returned (ptrV (if p.right then N p.1 p.2.toNat else none)) ∧ Below w.heap.size w w' := by
  obtain ⟨b, hb⟩ : ∃ b : Bool, b = decide p.right := ⟨_, rfl⟩
  have c1 := hid fun w => addr_right p.1 hp p.2 b hb w
  by_cases hr : p.right
  · obtain rfl : b = true := by rw [hb]; exact decide_eq_true hr
    rw [if_pos hr]
    have h0 := hr.1
    have h1 := hr.2.1
    have hcut := hr.2.2
    obtain ⟨⟨a, b⟩, L⟩ := p
    obtain ⟨L, rfl⟩ := Int.eq_ofNat_of_zero_le h0
    have HCUT := hid hcut
    have HP := hid hp
    have HT := hid H
    have c2 := hid fun k w => addr_bitN (a, b) hp k _ rfl w
    have h128 : L ≤ 128 := by simp at h1; omega
    clear hr hb hcut H hp h0 h1
    go_enter Try.func60, Try.ntmps60
    go_wp2_with fail
    refine (c1.out _).mono ?_
    rintro _ w1 ⟨rfl, hb1⟩
    have hB := hid (Below.trans (b := _) ((Below.refl w.heap.size w).alloc (Nat.le_refl _) _) (hb1.mono (by simp)))
    have hX := hid ((Blk.new_at w #[.int .u64 (a : Int), .int .u64 (b : Int), .int .i64 (L : Int)] 26 w.heap.size rfl).below' hb1)
    clear hb1
    go_wp2_with fail
    go_loopw [7, 8] (fun x i wr => FindLoop w (a, b) L N x i wr) (fun _ i _ => L - (intOf i).toNat)
    case atStart =>
      refine ⟨0, Nat.zero_le _, rfl, ?_, hX.out, hB.out⟩
      rw [cut_none HP.out, HT.out.root]; rfl
    case round =>
      clear hX hB
      obtain ⟨k, hk, rfl, rfl, hX, hB⟩ := hrel
      have x0 := hX.cellv (i := 0) rfl
      have x1 := hX.cellv (i := 1) rfl
      have x2 := hX.cellv (i := 2) rfl
      by_cases hlt : k < L
      · cases hN : N (Ad.cut (a, b) k) k with
        | none =>
          have hno := hid (HT.out.none_below HP.out hN L hk h128)
          have HB := hid hB
          clear hN hX hB
          unfold ptrV
          go_wp2_with fail
          go_ret
          have h1 := hno.out
          rw [show Ad.cut (a, b) L = (a, b) from by simpa using HCUT.out] at h1
          have e : ptrV (N (a, b) ((L : Int).toNat)) = .pointer none := by rw [Int.toNat_natCast, h1]; rfl
          exact ⟨congrArg Ending.returned e.symm, HB.out⟩
        | some q =>
          have hkid := hid (HT.out.kid HP.out (show k < 128 by omega) hN)
          have hq := hid (HT.out.lt q (HT.out.node _ _ _ (Kok.of_cut HP.out (show k ≤ 128 by omega)) hN).1)
          have hbl := Ad.bit_le (a, b) k
          have cb := hid (c2.out k)
          have HX := hid hX
          have HB := hid hB
          clear hN hX hB
          generalize Ad.bit (a, b) k = bit at hkid cb hbl
          have hc0 : (0 : Int) ≤ (bit : Int) := by omega
          have hc1 : (bit : Int) < 2 := by omega
          unfold ptrV
          go_wp2_with fail
          refine wp_region_later (fun w' => w'.cell? ⟨w.heap.size, 0, none⟩ = some (.int .u64 (a : Int)) ∧ w'.cell? ⟨w.heap.size, 1, none⟩ = some (.int .u64 (b : Int)))
            (fun x => ⟨x.cell x0, x.cell x1⟩) (by kernel_rfl) (by kernel_rfl) (fun HS => ?_)
          repeat (go_big_quiet_step (with_reducible exact Later.calls _ (cb.out _)))
          refine wpQuiet_nil ?_
          rintro w4 ⟨⟨_, hb4⟩, rfl⟩
          have hB4 := hid (held_next HB.out hb4)
          have hX4 := hid (HX.out.below' hb4)
          have hkc := (hB4.out.cell (p := ⟨q, 2 + bit, none⟩) hq.out).trans hkid.out
          clear HS hb4 HX HB hkid x0 x1 x2
          cases hN2 : N (Ad.cut (a, b) (k + 1)) (k + 1) with
          | none =>
            rw [hN2] at hkc
            have HN2 := hid hN2
            clear hN2
            unfold ptrV at hkc
            go_wp2_with fail
            go_roundw
            case rel => exact ⟨k + 1, by omega, by go_num, by rw [HN2.out]; rfl, hX4.out, hB4.out⟩
            case measure => simp [intOf]; omega
          | some q2 =>
            rw [hN2] at hkc
            have HN2 := hid hN2
            clear hN2
            unfold ptrV at hkc
            go_wp2_with fail
            go_roundw
            case rel => exact ⟨k + 1, by omega, by go_num, by rw [HN2.out]; rfl, hX4.out, hB4.out⟩
            case measure => simp [intOf]; omega
      · obtain rfl : k = L := by omega
        have e : Ad.cut (a, b) k = (a, b) := by simpa using HCUT.out
        have HE := hid e
        have HB := hid hB
        have HNV : ∃ v, N (Ad.cut (a, b) k) k = v := ⟨_, rfl⟩
        obtain ⟨v, hv⟩ := HNV
        have HV := hid hv
        rw [hv]
        clear hX hB e hlt hk hv
        cases v
        all_goals
          unfold ptrV
          go_wp2_with fail
          go_ret
          refine ⟨congrArg Ending.returned ?_, HB.out⟩
          have h := HV.out
          rw [HE.out] at h
          show _ = ptrV (N (a, b) ((k : Int).toNat))
          rw [Int.toNat_natCast, h]; rfl
  · obtain rfl : b = false := by rw [hb]; exact decide_eq_false hr
    rw [if_neg hr]
    clear hb hr H
    obtain ⟨⟨a, b⟩, L⟩ := p
    go_enter Try.func60, Try.ntmps60
    go_wp2_with fail
    refine (c1.out _).mono ?_
    rintro _ w1 ⟨rfl, hb1⟩
    have hB := hid (Below.trans (b := _) ((Below.refl w.heap.size w).alloc (Nat.le_refl _) _) (hb1.mono (by simp)))
    clear hb1
    go_wp2_with fail
    go_ret
    exact ⟨rfl, hB.out⟩

/-- What a call leaves of a trie: other blocks of it are new, and no others turned. -/
def TrieNext (w : World) (g : Nat) (F : Nat → Prop) (m' : Ad → Nat → Option Int) (n' : Int) (w' : World) : Prop :=
  ∃ F' N', TrieN w' g F' N' m' n' ∧ Chg F w w' ∧ ∀ x, F' x → F x ∨ w.heap.size ≤ x
def Grown (w : World) (g : Nat) (F : Nat → Prop) (m : Ad → Nat → Option Int) (n : Int) (c : Ad) (i : Nat) (e : Ending) (w' : World) : Prop :=
  ∃ b F' N', e = .returned (.pointer (some ⟨b, 0, none⟩)) ∧ TrieN w' g F' N' m n ∧ N' c i = some b ∧ Chg F w w' ∧ ∀ x, F' x → F x ∨ w.heap.size ≤ x
def GrowLoop (w : World) (g : Nat) (F : Nat → Prop) (m : Ad → Nat → Option Int) (n : Int) (p : Ad) (L : Nat) (x i : Value) (wr : World) : Prop :=
  ∃ (k q : Nat) (F' : Nat → Prop) (N' : Ad → Nat → Option Nat), k ≤ L ∧ i = .int .i64 k ∧ x = .pointer (some ⟨q, 0, none⟩) ∧ TrieN wr g F' N' m n ∧ N' (p.cut k) k = some q ∧
    Blk wr w.heap.size 26 [.int .u64 (p.1 : Int), .int .u64 (p.2 : Int), .int .i64 (L : Int)] ∧ Chg F w wr ∧ ∀ y, F' y → F y ∨ w.heap.size < y

theorem trie_grow {w : World} {g : Nat} {F : Nat → Prop} {N : Ad → Nat → Option Nat} {m : Ad → Nat → Option Int} {n : Int} (H : TrieN w g F N m n) (p : Pf) (hp : p.1.ok) (hr : p.right) :
    Calls Try.prog 60 #[.pointer (some ⟨g, 0, none⟩), .agg #[.int .u64 (p.1.1 : Int), .int .u64 (p.1.2 : Int), .int .i64 p.2], .bool true] w (Grown w g F m n p.1 p.2.toNat) := by
  have c1 := hid fun w => addr_right p.1 hp p.2 true (decide_eq_true hr).symm w
  have h0 := hr.1
  have h1 := hr.2.1
  have hcut := hr.2.2
  obtain ⟨⟨a, b⟩, L⟩ := p
  obtain ⟨L, rfl⟩ := Int.eq_ofNat_of_zero_le h0
  have HCUT := hid hcut
  have HP := hid hp
  have HT := hid H
  have HFL := hid (fun x hx => H.lt x hx)
  have c2 := hid fun k w => addr_bitN (a, b) hp k _ rfl w
  have h128 : L ≤ 128 := by simp at h1; omega
  clear hr hcut H hp h0 h1
  go_enter Try.func60, Try.ntmps60
  go_wp2_with fail
  refine (c1.out _).mono ?_
  rintro _ w1 ⟨rfl, hb1⟩
  have hB := hid (Below.trans (b := _) ((Below.refl w.heap.size w).alloc (Nat.le_refl _) _) (hb1.mono (by simp)))
  have hX := hid ((Blk.new_at w #[.int .u64 (a : Int), .int .u64 (b : Int), .int .i64 (L : Int)] 26 w.heap.size rfl).below' hb1)
  clear hb1
  go_wp2_with fail
  go_loopw [7, 8] (fun x i wr => GrowLoop w g F m n (a, b) L x i wr) (fun _ i _ => L - (intOf i).toNat)
  case atStart =>
    refine ⟨0, g, F, N, Nat.zero_le _, rfl, rfl, HT.out.below hB.out, ?_, hX.out, Chg.of_below hB.out F, fun y hy => .inl hy⟩
    rw [cut_none HP.out, HT.out.root]
  case round =>
    clear hX hB HT
    obtain ⟨k, q, F', N', hk, rfl, rfl, hT, hN, hX, hC, hF⟩ := hrel
    have x0 := hX.cellv (i := 0) rfl
    have x1 := hX.cellv (i := 1) rfl
    have x2 := hX.cellv (i := 2) rfl
    by_cases hlt : k < L
    · have hkid := hid (hT.kid HP.out (show k < 128 by omega) hN)
      have hnd := hT.node _ _ _ (Kok.of_cut HP.out (show k ≤ 128 by omega)) hN
      have hq := hid (hT.lt q hnd.1)
      have HND := hid hnd
      have hbl := Ad.bit_le (a, b) k
      have cb := hid (c2.out k)
      have HX := hid hX
      have HC := hid hC
      have HF := hid hF
      have HN := hid hN
      have HT := hid hT
      clear hN hX hC hF hT hnd
      generalize hbit : Ad.bit (a, b) k = bit at hkid cb hbl
      have HBIT := hid hbit
      have hc0 : (0 : Int) ≤ (bit : Int) := by omega
      have hc1 : (bit : Int) < 2 := by omega
      clear hbit
      go_wp2_with fail
      refine wp_region_later (fun w' => w'.cell? ⟨w.heap.size, 0, none⟩ = some (.int .u64 (a : Int)) ∧ w'.cell? ⟨w.heap.size, 1, none⟩ = some (.int .u64 (b : Int)))
        (fun x => ⟨x.cell x0, x.cell x1⟩) (by kernel_rfl) (by kernel_rfl) (fun HS => ?_)
      repeat (go_big_quiet_step (with_reducible exact Later.calls _ (cb.out _)))
      refine wpQuiet_nil ?_
      rintro w4 ⟨⟨_, hb4⟩, rfl⟩
      have hkc := (hb4.cell (p := ⟨q, 2 + bit, none⟩) hq.out).trans hkid.out
      have hkf := (HND.out.2.below' hb4).frozen (2 + bit)
      have hql := Nat.lt_of_lt_of_le hq.out hb4.size
      have HT4 := hid (HT.out.below hb4)
      have HX4 := hid (HX.out.below' hb4)
      have HC4 := hid (HC.out.trans' (Chg.of_below hb4 F))
      clear HS hb4 HX HC hkid x0 x1 x2 HT HND hq
      cases hN2 : N' (Ad.cut (a, b) (k + 1)) (k + 1) with
      | none =>
        rw [hN2] at hkc
        have HN2 := hid hN2
        clear hN2
        unfold ptrV at hkc
        have HL := hid HX4.out.lt
        go_wp2_with fail
        go_roundw
        case rel =>
          have hg := HT4.out.grow HP.out (show k < 128 by omega) HN.out HN2.out
          rw [HBIT.out, World.setCell_alloc_past _ _ _ _ hql] at hg
          refine ⟨k + 1, w4.heap.size, _, _, by omega, by go_num, rfl, hg, updN_same _ _ _ _, ?_, ?_, ?_⟩
          · refine (HX4.out.set_ne ?_ _).alloc _
            intro e
            have h1 := HF.out q (HT4.out.node _ _ _ (Kok.of_cut HP.out (show k ≤ 128 by omega)) HN.out).1
            rcases h1 with h1 | h1
            · have := HFL.out q h1; simp at e; omega
            · simp at e; omega
          · refine (HC4.out.setCell (fun h => ?_) _).alloc _
            have h1 := HF.out q (HT4.out.node _ _ _ (Kok.of_cut HP.out (show k ≤ 128 by omega)) HN.out).1
            rcases h1 with h1 | h1
            · exact h1
            · simp at h; omega
          · intro y hy
            rcases hy with hy | hy
            · exact HF.out y hy
            · right; have := HL.out; omega
        case measure => simp [intOf]; omega
      | some q2 =>
        rw [hN2] at hkc
        have HN2 := hid hN2
        clear hN2
        unfold ptrV at hkc
        go_wp2_with fail
        go_roundw
        case rel => exact ⟨k + 1, q2, F', N', by omega, by go_num, rfl, HT4.out, HN2.out, HX4.out, HC4.out, HF.out⟩
        case measure => simp [intOf]; omega
    · obtain rfl : k = L := by omega
      have HE := hid (show Ad.cut (a, b) k = (a, b) by simpa using HCUT.out)
      have HC := hid hC
      have HF := hid hF
      have HN := hid hN
      have HT := hid hT
      clear hX hC hF hN hT hlt hk
      go_wp2_with fail
      go_ret
      refine ⟨q, F', N', rfl, HT.out, ?_, HC.out, fun x hx => (HF.out x hx).imp id Nat.le_of_lt⟩
      have h := HN.out
      rw [HE.out] at h
      show N' (a, b) ((k : Int).toNat) = some q
      rw [Int.toNat_natCast, h]

theorem trie_grow_no {w : World} {g : Nat} (p : Pf) (hp : p.1.ok) (hr : ¬ p.right) :
    Calls Try.prog 60 #[.pointer (some ⟨g, 0, none⟩), .agg #[.int .u64 (p.1.1 : Int), .int .u64 (p.1.2 : Int), .int .i64 p.2], .bool true] w fun e w' => e = .returned (.pointer none) ∧ Below w.heap.size w w' := by
  have c1 := hid fun w => addr_right p.1 hp p.2 false (decide_eq_false hr).symm w
  clear hr
  obtain ⟨⟨a, b⟩, L⟩ := p
  go_enter Try.func60, Try.ntmps60
  go_wp2_with fail
  refine (c1.out _).mono ?_
  rintro _ w1 ⟨rfl, hb1⟩
  have hB := hid (Below.trans (b := _) ((Below.refl w.heap.size w).alloc (Nat.le_refl _) _) (hb1.mono (by simp)))
  clear hb1
  go_wp2_with fail
  go_ret
  exact ⟨rfl, hB.out⟩

end Go.Proofs.Ytjhgmjfjlndomaa
