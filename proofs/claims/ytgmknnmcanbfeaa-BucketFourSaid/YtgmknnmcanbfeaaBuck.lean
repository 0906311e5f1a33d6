/-
  Contracts of package bucket's functions: a Bucket at block g is a row of four places. Conditions: as each theorem says.
-/
import Derived.Test.YtgmknnmcanbfeaaAddr
import Derived.Handy
import Derived.Deep.MidRow
namespace Go.Proofs.Ytgmknnmcanbfeaa
open Go.RowKit
set_option linter.unusedVariables false
set_option linter.unusedSimpArgs false
set_option maxRecDepth 100000
attribute [local go_sem high] eq_ad eq_pf

/-- A place: whether it is there, its key, its value. -/
abbrev Plc := Bool × Pf × Int
def plcEn (x : Plc) : List Value := [.bool x.1, .int .u64 (x.2.1.1.1 : Int), .int .u64 (x.2.1.1.2 : Int), .int .i64 x.2.1.2, .int .i64 x.2.2]
/-- The Bucket at block g. -/
structure Buck (w : World) (g : Nat) (ps : List Plc) : Prop where
  top : Blk w g 64 (ps.flatMap plcEn)
  len : ps.length = 4

theorem four {ps : List Plc} (h : ps.length = 4) : ∃ a b c d, ps = [a, b, c, d] := by
  match ps, h with
  | [a, b, c, d], _ => exact ⟨a, b, c, d, rfl⟩

theorem place_size : Try.prog.types[61].size = 5 := by kernel_rfl
theorem ix0 (w : World) (x0 x1 x2 x3 x4 x5 x6 x7 x8 x9 x10 x11 x12 x13 x14 x15 x16 x17 x18 x19 : Value) : (Instr.index 62 (.agg #[x0, x1, x2, x3, x4, x5, x6, x7, x8, x9, x10, x11, x12, x13, x14, x15, x16, x17, x18, x19]) (.int .i64 0)).run Try.prog w = .ok (.agg #[x0, x1, x2, x3, x4]) w := by
  have hs : (sizeOf 61).run Try.prog w = .ok 5 w := by kernel_rfl
  simp [Instr.index, run_underlying Try.underlying62, asIntOf, go_sem]
theorem ix1 (w : World) (x0 x1 x2 x3 x4 x5 x6 x7 x8 x9 x10 x11 x12 x13 x14 x15 x16 x17 x18 x19 : Value) : (Instr.index 62 (.agg #[x0, x1, x2, x3, x4, x5, x6, x7, x8, x9, x10, x11, x12, x13, x14, x15, x16, x17, x18, x19]) (.int .i64 1)).run Try.prog w = .ok (.agg #[x5, x6, x7, x8, x9]) w := by
  have hs : (sizeOf 61).run Try.prog w = .ok 5 w := by kernel_rfl
  simp [Instr.index, run_underlying Try.underlying62, asIntOf, go_sem]
theorem ix2 (w : World) (x0 x1 x2 x3 x4 x5 x6 x7 x8 x9 x10 x11 x12 x13 x14 x15 x16 x17 x18 x19 : Value) : (Instr.index 62 (.agg #[x0, x1, x2, x3, x4, x5, x6, x7, x8, x9, x10, x11, x12, x13, x14, x15, x16, x17, x18, x19]) (.int .i64 2)).run Try.prog w = .ok (.agg #[x10, x11, x12, x13, x14]) w := by
  have hs : (sizeOf 61).run Try.prog w = .ok 5 w := by kernel_rfl
  simp [Instr.index, run_underlying Try.underlying62, asIntOf, go_sem]
theorem ix3 (w : World) (x0 x1 x2 x3 x4 x5 x6 x7 x8 x9 x10 x11 x12 x13 x14 x15 x16 x17 x18 x19 : Value) : (Instr.index 62 (.agg #[x0, x1, x2, x3, x4, x5, x6, x7, x8, x9, x10, x11, x12, x13, x14, x15, x16, x17, x18, x19]) (.int .i64 3)).run Try.prog w = .ok (.agg #[x15, x16, x17, x18, x19]) w := by
  have hs : (sizeOf 61).run Try.prog w = .ok 5 w := by kernel_rfl
  simp [Instr.index, run_underlying Try.underlying62, asIntOf, go_sem]
attribute [local go_sem high] ix0 ix1 ix2 ix3
theorem buck_row_info : (Try.prog.info? 62).map (·.size) = some 20 := by kernel_rfl
theorem range_of {w : World} {g : Nat} {t : TypeId} {cs : List Value} (h : Blk w g t cs) : w.rangeAt g 0 cs := fun j v hj => by rw [Nat.zero_add]; exact h.cellv hj
/-- Where a key is; -1: nowhere. -/
def findP : List Plc → Pf → Nat → Int
  | [], _, _ => -1
  | x :: xs, p, i => if x.1 = true ∧ x.2.1 = p then (i : Int) else findP xs p (i + 1)
def FRel (w0 : World) (ps : List Plc) (p : Pf) (R : Int) (i : Value) (wr : World) : Prop := ∃ k : Nat, k ≤ 4 ∧ i = .int .i64 k ∧ findP (ps.drop k) p k = R ∧ Below w0.heap.size w0 wr
theorem pl_beq (a1 a2 p1 p2 : Nat) (a3 p3 : Int) : (((a1 : Int) == (p1 : Int) && ((a2 : Int) == (p2 : Int))) && (a3 == p3)) = decide (((a1, a2), a3) = ((p1, p2), p3)) := by
  rw [Bool.eq_iff_iff]; simp [Prod.ext_iff]; omega

set_option maxHeartbeats 4000000 in
theorem buck_find {w : World} {g : Nat} {ps : List Plc} (H : Buck w g ps) (p : Pf) :
    Calls Try.prog 64 #[.pointer (some ⟨g, 0, none⟩), p.v] w fun e w' => e = .returned (.int .i64 (findP ps p 0)) ∧ Below w.heap.size w w' := by
  obtain ⟨R, hR⟩ : ∃ R, findP ps p 0 = R := ⟨_, rfl⟩
  rw [hR]
  obtain ⟨top, len⟩ := H
  obtain ⟨a, b, c, d, hps⟩ := four len
  clear len
  rw [hps] at top
  obtain ⟨a0, ⟨⟨a1, a2⟩, a3⟩, a4⟩ := a
  obtain ⟨b0, ⟨⟨b1, b2⟩, b3⟩, b4⟩ := b
  obtain ⟨c0, ⟨⟨c1, c2⟩, c3⟩, c4⟩ := c
  obtain ⟨d0, ⟨⟨d1, d2⟩, d3⟩, d4⟩ := d
  obtain ⟨⟨p1, p2⟩, p3⟩ := p
  have HP := hid hps
  have HR := hid hR
  clear hps hR
  unfold Pf.v
  have top' := top.alloc (.cells #[.int .u64 (p1 : Int), .int .u64 (p2 : Int), .int .i64 p3] 32)
  have hbox := Blk.new_at w #[.int .u64 (p1 : Int), .int .u64 (p2 : Int), .int .i64 p3] 32 w.heap.size rfl
  have hw0 : Below w.heap.size w (w.alloc (.cells #[.int .u64 (p1 : Int), .int .u64 (p2 : Int), .int .i64 p3] 32)) := (Below.refl _ _).alloc (Nat.le_refl _) _
  have hsz : w.heap.size < (w.alloc (.cells #[.int .u64 (p1 : Int), .int .u64 (p2 : Int), .int .i64 p3] 32)).heap.size := by simp
  have hrow : (w.alloc (.cells #[.int .u64 (p1 : Int), .int .u64 (p2 : Int), .int .i64 p3] 32)).heap[g]? = some (.cells #[.bool a0, .int .u64 (a1 : Int), .int .u64 (a2 : Int), .int .i64 a3, .int .i64 a4, .bool b0, .int .u64 (b1 : Int), .int .u64 (b2 : Int), .int .i64 b3, .int .i64 b4, .bool c0, .int .u64 (c1 : Int), .int .u64 (c2 : Int), .int .i64 c3, .int .i64 c4, .bool d0, .int .u64 (d1 : Int), .int .u64 (d2 : Int), .int .i64 d3, .int .i64 d4] 64 (0, 0)) := top'
  have HRW := hid hrow
  clear hrow top'
  have hg := guard_pf
  clear top
  have HB := hid hbox
  have HW := hid hw0
  have HS := hid hsz
  clear hbox hw0 hsz
  go_enter Try.func64, Try.ntmps64
  go_wp2_with (refine wpList_load_row rfl 62 _ rfl g rfl _ _ (0, 0) _ HRW.out Try.underlying62 rfl (by kernel_rfl) ?_)
  clear HRW
  have hbox := HB.out
  have hw0 := HW.out
  have hsz := HS.out
  clear HB HW HS
  generalize w.alloc (.cells #[.int .u64 (p1 : Int), .int .u64 (p2 : Int), .int .i64 p3] 32) = w0 at *
  go_loopw [13] (fun i wr => FRel w0 ps ((p1, p2), p3) R i wr) (fun i _ => 4 - (intOf i).toNat)
  case atStart => exact ⟨0, by omega, rfl, HR.out, Below.refl _ _⟩
  case round =>
    obtain ⟨k, hk, rfl, hF, hb⟩ := hrel
    have hF := hid hF
    have hbx := hbox.below hb hsz
    have hsz2 : w.heap.size < wr.heap.size := Nat.lt_of_lt_of_le hsz hb.size
    have q0 := hbx.cellv (i := 0) rfl
    have q1 := hbx.cellv (i := 1) rfl
    have q2 := hbx.cellv (i := 2) rfl
    have HBB := hid (hw0.trans (hb.mono hw0.size))
    have hb := hid hb
    clear hbx hbox hw0
    obtain rfl | rfl | rfl | rfl | rfl : k = 0 ∨ k = 1 ∨ k = 2 ∨ k = 3 ∨ k = 4 := by omega
    · clear hk
      cases a0
      · have hF' : findP (List.drop (1) ps) ((p1, p2), p3) (1) = R := by rw [← hF.out, HP.out]; simp [findP]
        go_wp2_with fail
        go_roundw
        case rel => exact ⟨1, by omega, by go_num, hF', hb.out.alloc hb.out.size _⟩
        case measure => simp [intOf]
      · obtain ⟨m, hm⟩ : ∃ m, (((a1 : Int) == (p1 : Int) && ((a2 : Int) == (p2 : Int))) && (a3 == p3)) = m := ⟨_, rfl⟩
        have hm2 := hm
        rw [pl_beq] at hm2
        have HM := hid hm2
        clear hm2
        cases m
        · have hF' : findP (List.drop (1) ps) ((p1, p2), p3) (1) = R := by
            have := of_decide_eq_false HM.out
            rw [← hF.out, HP.out]; simp [findP, this]
          go_wp2_with fail
          go_roundw
          case rel => exact ⟨1, by omega, by go_num, hF', hb.out.alloc hb.out.size _⟩
          case measure => simp [intOf]
        · have hF' : R = 0 := by
            have := of_decide_eq_true HM.out
            rw [← hF.out, HP.out]; simp [findP, this]
          go_wp2_with fail
          go_ret
          exact ⟨ret_int hF'.symm, HBB.out.alloc HBB.out.size _⟩
    · clear hk
      cases b0
      · have hF' : findP (List.drop (2) ps) ((p1, p2), p3) (2) = R := by rw [← hF.out, HP.out]; simp [findP]
        go_wp2_with fail
        go_roundw
        case rel => exact ⟨2, by omega, by go_num, hF', hb.out.alloc hb.out.size _⟩
        case measure => simp [intOf]
      · obtain ⟨m, hm⟩ : ∃ m, (((b1 : Int) == (p1 : Int) && ((b2 : Int) == (p2 : Int))) && (b3 == p3)) = m := ⟨_, rfl⟩
        have hm2 := hm
        rw [pl_beq] at hm2
        have HM := hid hm2
        clear hm2
        cases m
        · have hF' : findP (List.drop (2) ps) ((p1, p2), p3) (2) = R := by
            have := of_decide_eq_false HM.out
            rw [← hF.out, HP.out]; simp [findP, this]
          go_wp2_with fail
          go_roundw
          case rel => exact ⟨2, by omega, by go_num, hF', hb.out.alloc hb.out.size _⟩
          case measure => simp [intOf]
        · have hF' : R = 1 := by
            have := of_decide_eq_true HM.out
            rw [← hF.out, HP.out]; simp [findP, this]
          go_wp2_with fail
          go_ret
          exact ⟨ret_int hF'.symm, HBB.out.alloc HBB.out.size _⟩
    · clear hk
      cases c0
      · have hF' : findP (List.drop (3) ps) ((p1, p2), p3) (3) = R := by rw [← hF.out, HP.out]; simp [findP]
        go_wp2_with fail
        go_roundw
        case rel => exact ⟨3, by omega, by go_num, hF', hb.out.alloc hb.out.size _⟩
        case measure => simp [intOf]
      · obtain ⟨m, hm⟩ : ∃ m, (((c1 : Int) == (p1 : Int) && ((c2 : Int) == (p2 : Int))) && (c3 == p3)) = m := ⟨_, rfl⟩
        have hm2 := hm
        rw [pl_beq] at hm2
        have HM := hid hm2
        clear hm2
        cases m
        · have hF' : findP (List.drop (3) ps) ((p1, p2), p3) (3) = R := by
            have := of_decide_eq_false HM.out
            rw [← hF.out, HP.out]; simp [findP, this]
          go_wp2_with fail
          go_roundw
          case rel => exact ⟨3, by omega, by go_num, hF', hb.out.alloc hb.out.size _⟩
          case measure => simp [intOf]
        · have hF' : R = 2 := by
            have := of_decide_eq_true HM.out
            rw [← hF.out, HP.out]; simp [findP, this]
          go_wp2_with fail
          go_ret
          exact ⟨ret_int hF'.symm, HBB.out.alloc HBB.out.size _⟩
    · clear hk
      cases d0
      · have hF' : findP (List.drop (4) ps) ((p1, p2), p3) (4) = R := by rw [← hF.out, HP.out]; simp [findP]
        go_wp2_with fail
        go_roundw
        case rel => exact ⟨4, by omega, by go_num, hF', hb.out.alloc hb.out.size _⟩
        case measure => simp [intOf]
      · obtain ⟨m, hm⟩ : ∃ m, (((d1 : Int) == (p1 : Int) && ((d2 : Int) == (p2 : Int))) && (d3 == p3)) = m := ⟨_, rfl⟩
        have hm2 := hm
        rw [pl_beq] at hm2
        have HM := hid hm2
        clear hm2
        cases m
        · have hF' : findP (List.drop (4) ps) ((p1, p2), p3) (4) = R := by
            have := of_decide_eq_false HM.out
            rw [← hF.out, HP.out]; simp [findP, this]
          go_wp2_with fail
          go_roundw
          case rel => exact ⟨4, by omega, by go_num, hF', hb.out.alloc hb.out.size _⟩
          case measure => simp [intOf]
        · have hF' : R = 3 := by
            have := of_decide_eq_true HM.out
            rw [← hF.out, HP.out]; simp [findP, this]
          go_wp2_with fail
          go_ret
          exact ⟨ret_int hF'.symm, HBB.out.alloc HBB.out.size _⟩
    · have hF' : R = -1 := by rw [← hF.out, HP.out]; rfl
      go_wp2_with fail
      go_ret
      exact ⟨ret_int hF'.symm, HBB.out⟩
end Go.Proofs.Ytgmknnmcanbfeaa
