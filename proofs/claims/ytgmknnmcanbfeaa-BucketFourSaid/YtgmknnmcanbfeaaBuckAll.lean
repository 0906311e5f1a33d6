/-
  Contract of package bucket's All. Conditions: as the theorem says.
-/
import Derived.Test.YtgmknnmcanbfeaaBuckPut
import Derived.Test.YtgmknnmcanbfeaaSlice
namespace Go.Proofs.Ytgmknnmcanbfeaa
open Go.RowKit
set_option linter.unusedVariables false
set_option linter.unusedSimpArgs false
set_option maxRecDepth 100000
attribute [local go_sem high] ix0 ix1 ix2 ix3

/-- A route's cells. -/
def rtEn (x : Plc) : List Value := [.int .u64 (x.2.1.1.1 : Int), .int .u64 (x.2.1.1.2 : Int), .int .i64 x.2.1.2, .int .i64 x.2.2]
/-- What is there. -/
def allP (ps : List Plc) : List Plc := ps.filter (·.1)
def allV (ps : List Plc) : List Value := (allP ps).flatMap rtEn
theorem allP_next (ps : List Plc) (k : Nat) (x : Plc) (hx : ps[k]? = some x) : allP (ps.take (k + 1)) = allP (ps.take k) ++ if x.1 = true then [x] else [] := by
  obtain ⟨hk, e⟩ := List.getElem?_eq_some_iff.1 hx
  unfold allP
  rw [List.take_succ_eq_append_getElem hk, List.filter_append, e]
  cases h : x.1 <;> simp [h]
theorem rt_info : (Try.prog.info? 59).map (fun i => (i.zero, i.size, i.bytes)) = some (some (.agg #[.int .u64 0, .int .u64 0, .int .i64 0, .int .i64 0]), 4, 32) := by kernel_rfl
def ARel (w : World) (ps : List Plc) (v i : Value) (wr : World) : Prop :=
  ∃ k : Nat, k ≤ 4 ∧ i = .int .i64 k ∧ Owns wr w.heap.size 59 4 v (allP (ps.take k)).length (allV (ps.take k)) ∧ Below w.heap.size w wr

theorem alloc_size (w : World) (o : Obj) : (w.alloc o).heap.size = w.heap.size + 1 := by simp
set_option maxHeartbeats 2000000 in
theorem buck_all {w : World} {g : Nat} {ps : List Plc} (H : Buck w g ps) :
    Calls Try.prog 46 #[.pointer (some ⟨g, 0, none⟩)] w fun e w' => ∃ v, e = .returned v ∧ Owns w' w.heap.size 59 4 v (allP ps).length (allV ps) ∧ Below w.heap.size w w' := by
  obtain ⟨top, len⟩ := H
  have hgl := top.lt
  have HL := hid len
  obtain ⟨a, b, c, d, hps⟩ := four len
  clear len
  rw [hps] at top
  obtain ⟨a0, ⟨⟨a1, a2⟩, a3⟩, a4⟩ := a
  obtain ⟨b0, ⟨⟨b1, b2⟩, b3⟩, b4⟩ := b
  obtain ⟨c0, ⟨⟨c1, c2⟩, c3⟩, c4⟩ := c
  obtain ⟨d0, ⟨⟨d1, d2⟩, d3⟩, d4⟩ := d
  have HP := hid hps
  clear hps
  have hrow : w.heap[g]? = some (.cells #[.bool a0, .int .u64 (a1 : Int), .int .u64 (a2 : Int), .int .i64 a3, .int .i64 a4, .bool b0, .int .u64 (b1 : Int), .int .u64 (b2 : Int), .int .i64 b3, .int .i64 b4, .bool c0, .int .u64 (c1 : Int), .int .u64 (c2 : Int), .int .i64 c3, .int .i64 c4, .bool d0, .int .u64 (d1 : Int), .int .u64 (d2 : Int), .int .i64 d3, .int .i64 d4] 64 (0, 0)) := top
  have HRW := hid hrow
  clear hrow top
  go_enter Try.func46, Try.ntmps46
  go_wp2_with (refine wpList_load_row rfl 62 _ rfl g rfl _ _ (0, 0) _ HRW.out Try.underlying62 rfl (by kernel_rfl) ?_)
  clear HRW
  go_loopw [3, 12] (fun v i wr => ARel w ps v i wr) (fun _ i _ => 4 - (intOf i).toNat)
  case atStart => exact ⟨0, by omega, rfl, Owns.nil _ _ _ _, Below.refl _ _⟩
  case round =>
    obtain ⟨k, hk, rfl, hO, hB⟩ := hrel
    by_cases hk4 : k < 4
    · obtain ⟨x, hx⟩ : ∃ x, ps[k]? = some x := ⟨_, List.getElem?_eq_getElem (by rw [HL.out]; exact hk4)⟩
      have hn := allP_next ps k x hx
      have hlen : (allP (ps.take k)).length ≤ 4 := Nat.le_trans (List.length_filter_le _ _) (Nat.le_trans (List.length_take_le _ _) hk)
      have HN := hid hn
      have hx' := hx
      rw [HP.out] at hx'
      clear hn hx
      obtain ⟨n, hnl⟩ : ∃ n, (allP (ps.take k)).length = n := ⟨_, rfl⟩
      rw [hnl] at hO hlen
      have LN := hid hnl
      clear hnl
      obtain ⟨A, cap, rfl, hnc, hcm, hform⟩ := hO.form
      have HF := hid hform
      clear hform
      have hs0 := hB.size
      obtain rfl | rfl | rfl | rfl : k = 0 ∨ k = 1 ∨ k = 2 ∨ k = 3 := by omega
      · simp at hx'
        subst hx'
        cases a0
        · have hO2 : Owns (wr.alloc (.cells #[.bool false, .int .u64 (a1 : Int), .int .u64 (a2 : Int), .int .i64 a3, .int .i64 a4] 61)) w.heap.size 59 4 (.slice A n cap) n (allV (ps.take 0)) := hO.below ((Below.refl _ _).alloc (Nat.le_refl _) _)
          have hB2 := hB.alloc hs0 (.cells #[.bool false, .int .u64 (a1 : Int), .int .u64 (a2 : Int), .int .i64 a3, .int .i64 a4] 61)
          have e : allP (ps.take (0 + 1)) = allP (ps.take 0) := by rw [HN.out]; simp
          have HE := hid e
          have HO2 := hid hO2
          have HB2 := hid hB2
          clear e hO hO2 hB hB2
          go_wp2_with fail
          go_roundw
          case rel => exact ⟨0 + 1, by omega, rfl, by unfold allV at *; rw [HE.out, LN.out]; exact HO2.out, HB2.out⟩
          case measure => simp [intOf]
        · have hO2 : Owns (wr.alloc (.cells #[.bool true, .int .u64 (a1 : Int), .int .u64 (a2 : Int), .int .i64 a3, .int .i64 a4] 61)) w.heap.size 59 4 (.slice A n cap) n (allV (ps.take 0)) := hO.below ((Below.refl _ _).alloc (Nat.le_refl _) _)
          have hB2 := hB.alloc hs0 (.cells #[.bool true, .int .u64 (a1 : Int), .int .u64 (a2 : Int), .int .i64 a3, .int .i64 a4] 61)
          have e : allP (ps.take (0 + 1)) = allP (ps.take 0) ++ [(true, ((a1, a2), a3), a4)] := by rw [HN.out]; simp
          have hs2 := hB2.size
          clear hO
          have HE := hid e
          clear e
          go_wp2_with (at_builtin; refine wpList_push rfl _ _ 66 rfl 59 (.agg #[.int .u64 0, .int .u64 0, .int .i64 0, .int .i64 0]) 4 32 Try.underlying66 rt_info rfl (by decide) w.heap.size _ n _ rfl hO2 [.int .u64 (a1 : Int), .int .u64 (a2 : Int), .int .i64 a3, .int .i64 a4] (by rw [alloc_size]; rfl) rfl ?c1 ?c2 ?c3 ?c4 ?_)
          case c1 => first | exact ⟨rfl, rfl, rfl, rfl⟩ | (intro u hu; simp at hu; rcases hu with rfl | rfl | rfl | rfl <;> rfl)
          case c2 => unfold maxLen; omega
          case c3 => omega
          case c4 => first | omega | exact hs2
          intro v' w4 hO4 hC4
          have hB4 := hB2.trans (hC4.below hs2 (fun g hg k => by have := (hO2.base_le g k).1; omega))
          have HO4 := hid hO4
          have HB4 := hid hB4
          clear hO2 hB hB2 hC4 hO4 hB4
          go_wp2_with fail
          go_roundw
          case rel => exact ⟨0 + 1, by omega, rfl, by unfold allV; rw [HE.out, List.length_append, LN.out, List.flatMap_append]; exact HO4.out, HB4.out⟩
          case measure => simp [intOf]
      · simp at hx'
        subst hx'
        cases b0
        · have hO2 : Owns (wr.alloc (.cells #[.bool false, .int .u64 (b1 : Int), .int .u64 (b2 : Int), .int .i64 b3, .int .i64 b4] 61)) w.heap.size 59 4 (.slice A n cap) n (allV (ps.take 1)) := hO.below ((Below.refl _ _).alloc (Nat.le_refl _) _)
          have hB2 := hB.alloc hs0 (.cells #[.bool false, .int .u64 (b1 : Int), .int .u64 (b2 : Int), .int .i64 b3, .int .i64 b4] 61)
          have e : allP (ps.take (1 + 1)) = allP (ps.take 1) := by rw [HN.out]; simp
          have HE := hid e
          have HO2 := hid hO2
          have HB2 := hid hB2
          clear e hO hO2 hB hB2
          go_wp2_with fail
          go_roundw
          case rel => exact ⟨1 + 1, by omega, rfl, by unfold allV at *; rw [HE.out, LN.out]; exact HO2.out, HB2.out⟩
          case measure => simp [intOf]
        · have hO2 : Owns (wr.alloc (.cells #[.bool true, .int .u64 (b1 : Int), .int .u64 (b2 : Int), .int .i64 b3, .int .i64 b4] 61)) w.heap.size 59 4 (.slice A n cap) n (allV (ps.take 1)) := hO.below ((Below.refl _ _).alloc (Nat.le_refl _) _)
          have hB2 := hB.alloc hs0 (.cells #[.bool true, .int .u64 (b1 : Int), .int .u64 (b2 : Int), .int .i64 b3, .int .i64 b4] 61)
          have e : allP (ps.take (1 + 1)) = allP (ps.take 1) ++ [(true, ((b1, b2), b3), b4)] := by rw [HN.out]; simp
          have hs2 := hB2.size
          clear hO
          have HE := hid e
          clear e
          go_wp2_with (at_builtin; refine wpList_push rfl _ _ 66 rfl 59 (.agg #[.int .u64 0, .int .u64 0, .int .i64 0, .int .i64 0]) 4 32 Try.underlying66 rt_info rfl (by decide) w.heap.size _ n _ rfl hO2 [.int .u64 (b1 : Int), .int .u64 (b2 : Int), .int .i64 b3, .int .i64 b4] (by rw [alloc_size]; rfl) rfl ?c1 ?c2 ?c3 ?c4 ?_)
          case c1 => first | exact ⟨rfl, rfl, rfl, rfl⟩ | (intro u hu; simp at hu; rcases hu with rfl | rfl | rfl | rfl <;> rfl)
          case c2 => unfold maxLen; omega
          case c3 => omega
          case c4 => first | omega | exact hs2
          intro v' w4 hO4 hC4
          have hB4 := hB2.trans (hC4.below hs2 (fun g hg k => by have := (hO2.base_le g k).1; omega))
          have HO4 := hid hO4
          have HB4 := hid hB4
          clear hO2 hB hB2 hC4 hO4 hB4
          go_wp2_with fail
          go_roundw
          case rel => exact ⟨1 + 1, by omega, rfl, by unfold allV; rw [HE.out, List.length_append, LN.out, List.flatMap_append]; exact HO4.out, HB4.out⟩
          case measure => simp [intOf]
      · simp at hx'
        subst hx'
        cases c0
        · have hO2 : Owns (wr.alloc (.cells #[.bool false, .int .u64 (c1 : Int), .int .u64 (c2 : Int), .int .i64 c3, .int .i64 c4] 61)) w.heap.size 59 4 (.slice A n cap) n (allV (ps.take 2)) := hO.below ((Below.refl _ _).alloc (Nat.le_refl _) _)
          have hB2 := hB.alloc hs0 (.cells #[.bool false, .int .u64 (c1 : Int), .int .u64 (c2 : Int), .int .i64 c3, .int .i64 c4] 61)
          have e : allP (ps.take (2 + 1)) = allP (ps.take 2) := by rw [HN.out]; simp
          have HE := hid e
          have HO2 := hid hO2
          have HB2 := hid hB2
          clear e hO hO2 hB hB2
          go_wp2_with fail
          go_roundw
          case rel => exact ⟨2 + 1, by omega, rfl, by unfold allV at *; rw [HE.out, LN.out]; exact HO2.out, HB2.out⟩
          case measure => simp [intOf]
        · have hO2 : Owns (wr.alloc (.cells #[.bool true, .int .u64 (c1 : Int), .int .u64 (c2 : Int), .int .i64 c3, .int .i64 c4] 61)) w.heap.size 59 4 (.slice A n cap) n (allV (ps.take 2)) := hO.below ((Below.refl _ _).alloc (Nat.le_refl _) _)
          have hB2 := hB.alloc hs0 (.cells #[.bool true, .int .u64 (c1 : Int), .int .u64 (c2 : Int), .int .i64 c3, .int .i64 c4] 61)
          have e : allP (ps.take (2 + 1)) = allP (ps.take 2) ++ [(true, ((c1, c2), c3), c4)] := by rw [HN.out]; simp
          have hs2 := hB2.size
          clear hO
          have HE := hid e
          clear e
          go_wp2_with (at_builtin; refine wpList_push rfl _ _ 66 rfl 59 (.agg #[.int .u64 0, .int .u64 0, .int .i64 0, .int .i64 0]) 4 32 Try.underlying66 rt_info rfl (by decide) w.heap.size _ n _ rfl hO2 [.int .u64 (c1 : Int), .int .u64 (c2 : Int), .int .i64 c3, .int .i64 c4] (by rw [alloc_size]; rfl) rfl ?c1 ?c2 ?c3 ?c4 ?_)
          case c1 => first | exact ⟨rfl, rfl, rfl, rfl⟩ | (intro u hu; simp at hu; rcases hu with rfl | rfl | rfl | rfl <;> rfl)
          case c2 => unfold maxLen; omega
          case c3 => omega
          case c4 => first | omega | exact hs2
          intro v' w4 hO4 hC4
          have hB4 := hB2.trans (hC4.below hs2 (fun g hg k => by have := (hO2.base_le g k).1; omega))
          have HO4 := hid hO4
          have HB4 := hid hB4
          clear hO2 hB hB2 hC4 hO4 hB4
          go_wp2_with fail
          go_roundw
          case rel => exact ⟨2 + 1, by omega, rfl, by unfold allV; rw [HE.out, List.length_append, LN.out, List.flatMap_append]; exact HO4.out, HB4.out⟩
          case measure => simp [intOf]
      · simp at hx'
        subst hx'
        cases d0
        · have hO2 : Owns (wr.alloc (.cells #[.bool false, .int .u64 (d1 : Int), .int .u64 (d2 : Int), .int .i64 d3, .int .i64 d4] 61)) w.heap.size 59 4 (.slice A n cap) n (allV (ps.take 3)) := hO.below ((Below.refl _ _).alloc (Nat.le_refl _) _)
          have hB2 := hB.alloc hs0 (.cells #[.bool false, .int .u64 (d1 : Int), .int .u64 (d2 : Int), .int .i64 d3, .int .i64 d4] 61)
          have e : allP (ps.take (3 + 1)) = allP (ps.take 3) := by rw [HN.out]; simp
          have HE := hid e
          have HO2 := hid hO2
          have HB2 := hid hB2
          clear e hO hO2 hB hB2
          go_wp2_with fail
          go_roundw
          case rel => exact ⟨3 + 1, by omega, rfl, by unfold allV at *; rw [HE.out, LN.out]; exact HO2.out, HB2.out⟩
          case measure => simp [intOf]
        · have hO2 : Owns (wr.alloc (.cells #[.bool true, .int .u64 (d1 : Int), .int .u64 (d2 : Int), .int .i64 d3, .int .i64 d4] 61)) w.heap.size 59 4 (.slice A n cap) n (allV (ps.take 3)) := hO.below ((Below.refl _ _).alloc (Nat.le_refl _) _)
          have hB2 := hB.alloc hs0 (.cells #[.bool true, .int .u64 (d1 : Int), .int .u64 (d2 : Int), .int .i64 d3, .int .i64 d4] 61)
          have e : allP (ps.take (3 + 1)) = allP (ps.take 3) ++ [(true, ((d1, d2), d3), d4)] := by rw [HN.out]; simp
          have hs2 := hB2.size
          clear hO
          have HE := hid e
          clear e
          go_wp2_with (at_builtin; refine wpList_push rfl _ _ 66 rfl 59 (.agg #[.int .u64 0, .int .u64 0, .int .i64 0, .int .i64 0]) 4 32 Try.underlying66 rt_info rfl (by decide) w.heap.size _ n _ rfl hO2 [.int .u64 (d1 : Int), .int .u64 (d2 : Int), .int .i64 d3, .int .i64 d4] (by rw [alloc_size]; rfl) rfl ?c1 ?c2 ?c3 ?c4 ?_)
          case c1 => first | exact ⟨rfl, rfl, rfl, rfl⟩ | (intro u hu; simp at hu; rcases hu with rfl | rfl | rfl | rfl <;> rfl)
          case c2 => unfold maxLen; omega
          case c3 => omega
          case c4 => first | omega | exact hs2
          intro v' w4 hO4 hC4
          have hB4 := hB2.trans (hC4.below hs2 (fun g hg k => by have := (hO2.base_le g k).1; omega))
          have HO4 := hid hO4
          have HB4 := hid hB4
          clear hO2 hB hB2 hC4 hO4 hB4
          go_wp2_with fail
          go_roundw
          case rel => exact ⟨3 + 1, by omega, rfl, by unfold allV; rw [HE.out, List.length_append, LN.out, List.flatMap_append]; exact HO4.out, HB4.out⟩
          case measure => simp [intOf]
    · have e : ps.take k = ps := List.take_of_length_le (by rw [HL.out]; omega)
      rw [e] at hO
      have HO := hid hO
      have HB := hid hB
      clear hO hB
      go_wp2_with fail
      go_ret
      exact ⟨_, rfl, HO.out, HB.out⟩
end Go.Proofs.Ytgmknnmcanbfeaa
