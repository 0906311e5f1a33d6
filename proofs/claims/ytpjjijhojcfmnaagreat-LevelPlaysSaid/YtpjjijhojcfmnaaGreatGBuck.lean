/-
  Contracts of package bucket's functions: a Bucket at block g is a row of four places. Conditions: as each theorem says.
  Contracts of package bucket's functions: Put, Take, Get, All. Conditions: as each theorem says.
  Contract of package bucket's All. Conditions: as the theorem says.
  The contract of Swap in package bucket: a key comes in the place of another one. No condition but that the place is one of the four, and is taken.
  A table of buckets with a stash, in plain lists: what putting, taking and growing makes of it. No condition.
  Putting into a table of buckets, in plain lists: no key is lost, none is twice, each lies where it belongs. No condition.
-/
import Derived.Test.YtpjjijhojcfmnaaGreatGBase
import Derived.Handy
import Derived.Deep.MidRow
import Derived.Test.YtpjjijhojcfmnaaGreatGTrie
namespace Go.Proofs.YtpjjijhojcfmnaaGreat
open Go.RowKit
set_option linter.unusedVariables false
set_option linter.unusedSimpArgs false
set_option maxRecDepth 100000
attribute [local go_sem high] eq_ad eq_pf

/-- A place: whether it is there, its key, its value. -/
abbrev Plc := Bool × Pf × Int
def plcEn (x : Plc) : List Value := [.bool x.1, .int .u64 (x.2.1.1.1 : Int), .int .u64 (x.2.1.1.2 : Int), .int .i64 x.2.1.2, .int .i64 x.2.2]
/-- The Bucket at block g, from offset o on. -/
structure Bk (w : World) (g o : Nat) (A Z : List Value) (ps : List Plc) : Prop where
  top : Blk w g 116 (A ++ ps.flatMap plcEn ++ Z)
  len : ps.length = 4
  pre : A.length = o
theorem Blk.range {w : World} {g o : Nat} {t : TypeId} {A cs Z : List Value} (h : Blk w g t (A ++ cs ++ Z)) (hA : A.length = o) : w.rangeAt g o cs := fun j v hj => by
  subst hA
  refine h.cellv ?_
  rw [List.append_assoc, List.getElem?_append_right (by omega), List.getElem?_append_left (by have := (List.getElem?_eq_some_iff.1 hj).1; omega)]
  rw [show A.length + j - A.length = j by omega]; exact hj
theorem Blk.mid {w : World} {g o : Nat} {t : TypeId} {A cs Z : List Value} (h : Blk w g t (A ++ cs ++ Z)) (hA : A.length = o) {j : Nat} {v : Value} (hj : cs[j]? = some v) : w.cell? ⟨g, o + j, none⟩ = some v := h.range hA j v hj

theorem four {ps : List Plc} (h : ps.length = 4) : ∃ a b c d, ps = [a, b, c, d] := by
  match ps, h with
  | [a, b, c, d], _ => exact ⟨a, b, c, d, rfl⟩

theorem place_size : Tryz.prog.types[113].size = 5 := by kernel_rfl
theorem ix0 (w : World) (x0 x1 x2 x3 x4 x5 x6 x7 x8 x9 x10 x11 x12 x13 x14 x15 x16 x17 x18 x19 : Value) : (Instr.index 114 (.agg #[x0, x1, x2, x3, x4, x5, x6, x7, x8, x9, x10, x11, x12, x13, x14, x15, x16, x17, x18, x19]) (.int .i64 0)).run Tryz.prog w = .ok (.agg #[x0, x1, x2, x3, x4]) w := by
  have hs : (sizeOf 113).run Tryz.prog w = .ok 5 w := by kernel_rfl
  simp [Instr.index, run_underlying Tryz.underlying114, asIntOf, go_sem]
theorem ix1 (w : World) (x0 x1 x2 x3 x4 x5 x6 x7 x8 x9 x10 x11 x12 x13 x14 x15 x16 x17 x18 x19 : Value) : (Instr.index 114 (.agg #[x0, x1, x2, x3, x4, x5, x6, x7, x8, x9, x10, x11, x12, x13, x14, x15, x16, x17, x18, x19]) (.int .i64 1)).run Tryz.prog w = .ok (.agg #[x5, x6, x7, x8, x9]) w := by
  have hs : (sizeOf 113).run Tryz.prog w = .ok 5 w := by kernel_rfl
  simp [Instr.index, run_underlying Tryz.underlying114, asIntOf, go_sem]
theorem ix2 (w : World) (x0 x1 x2 x3 x4 x5 x6 x7 x8 x9 x10 x11 x12 x13 x14 x15 x16 x17 x18 x19 : Value) : (Instr.index 114 (.agg #[x0, x1, x2, x3, x4, x5, x6, x7, x8, x9, x10, x11, x12, x13, x14, x15, x16, x17, x18, x19]) (.int .i64 2)).run Tryz.prog w = .ok (.agg #[x10, x11, x12, x13, x14]) w := by
  have hs : (sizeOf 113).run Tryz.prog w = .ok 5 w := by kernel_rfl
  simp [Instr.index, run_underlying Tryz.underlying114, asIntOf, go_sem]
theorem ix3 (w : World) (x0 x1 x2 x3 x4 x5 x6 x7 x8 x9 x10 x11 x12 x13 x14 x15 x16 x17 x18 x19 : Value) : (Instr.index 114 (.agg #[x0, x1, x2, x3, x4, x5, x6, x7, x8, x9, x10, x11, x12, x13, x14, x15, x16, x17, x18, x19]) (.int .i64 3)).run Tryz.prog w = .ok (.agg #[x15, x16, x17, x18, x19]) w := by
  have hs : (sizeOf 113).run Tryz.prog w = .ok 5 w := by kernel_rfl
  simp [Instr.index, run_underlying Tryz.underlying114, asIntOf, go_sem]
attribute [local go_sem high] ix0 ix1 ix2 ix3
theorem buck_row_info : (Tryz.prog.info? 114).map (·.size) = some 20 := by kernel_rfl
/-- Where a key is; -1: nowhere. -/
def findP : List Plc → Pf → Nat → Int
  | [], _, _ => -1
  | x :: xs, p, i => if x.1 = true ∧ x.2.1 = p then (i : Int) else findP xs p (i + 1)
def FRel (w0 : World) (ps : List Plc) (p : Pf) (R : Int) (i : Value) (wr : World) : Prop := ∃ k : Nat, k ≤ 4 ∧ i = .int .i64 k ∧ findP (ps.drop k) p k = R ∧ Below w0.heap.size w0 wr
theorem pl_beq (a1 a2 p1 p2 : Nat) (a3 p3 : Int) : (((a1 : Int) == (p1 : Int) && ((a2 : Int) == (p2 : Int))) && (a3 == p3)) = decide (((a1, a2), a3) = ((p1, p2), p3)) := by
  rw [Bool.eq_iff_iff]; simp [Prod.ext_iff]; omega

set_option maxHeartbeats 4000000 in
theorem bk_find {w : World} {g o : Nat} {A Z : List Value} {ps : List Plc} (H : Bk w g o A Z ps) (p : Pf) :
    Calls Tryz.prog 82 #[.pointer (some ⟨g, o, none⟩), p.v] w fun e w' => e = .returned (.int .i64 (findP ps p 0)) ∧ Below w.heap.size w w' := by
  obtain ⟨R, hR⟩ : ∃ R, findP ps p 0 = R := ⟨_, rfl⟩
  rw [hR]
  obtain ⟨top, len, pre⟩ := H
  obtain ⟨a, b, c, d, hps⟩ := four len
  clear len
  rw [hps] at top
  obtain ⟨a0, ⟨⟨a1, a2⟩, a3⟩, a4⟩ := a
  obtain ⟨b0, ⟨⟨b1, b2⟩, b3⟩, b4⟩ := b
  obtain ⟨c0, ⟨⟨c1, c2⟩, c3⟩, c4⟩ := c
  obtain ⟨d0, ⟨⟨d1, d2⟩, d3⟩, d4⟩ := d
  obtain ⟨⟨p1, p2⟩, p3⟩ := p
  have HP := hid hps
  have HR := hid hR
  clear hps hR
  unfold Pf.v
  have top' := top.alloc (.cells #[.int .u64 (p1 : Int), .int .u64 (p2 : Int), .int .i64 p3] 38)
  have hbox := Blk.new_at w #[.int .u64 (p1 : Int), .int .u64 (p2 : Int), .int .i64 p3] 38 w.heap.size rfl
  have hw0 : Below w.heap.size w (w.alloc (.cells #[.int .u64 (p1 : Int), .int .u64 (p2 : Int), .int .i64 p3] 38)) := (Below.refl _ _).alloc (Nat.le_refl _) _
  have hsz : w.heap.size < (w.alloc (.cells #[.int .u64 (p1 : Int), .int .u64 (p2 : Int), .int .i64 p3] 38)).heap.size := by simp
  have hrow : (w.alloc (.cells #[.int .u64 (p1 : Int), .int .u64 (p2 : Int), .int .i64 p3] 38)).rangeAt g o [.bool a0, .int .u64 (a1 : Int), .int .u64 (a2 : Int), .int .i64 a3, .int .i64 a4, .bool b0, .int .u64 (b1 : Int), .int .u64 (b2 : Int), .int .i64 b3, .int .i64 b4, .bool c0, .int .u64 (c1 : Int), .int .u64 (c2 : Int), .int .i64 c3, .int .i64 c4, .bool d0, .int .u64 (d1 : Int), .int .u64 (d2 : Int), .int .i64 d3, .int .i64 d4] := top'.range pre
  have HRW := hid hrow
  clear hrow top'
  have hg := guard_pf
  clear top
  have HB := hid hbox
  have HW := hid hw0
  have HS := hid hsz
  clear hbox hw0 hsz
  go_enter Tryz.func82, Tryz.ntmps82
  go_wp2_with (refine wpList_load_mid rfl 114 _ rfl g o rfl _ _ HRW.out Tryz.underlying114 rfl (by kernel_rfl) ?_)
  clear HRW
  have hbox := HB.out
  have hw0 := HW.out
  have hsz := HS.out
  clear HB HW HS
  generalize w.alloc (.cells #[.int .u64 (p1 : Int), .int .u64 (p2 : Int), .int .i64 p3] 38) = w0 at *
  go_loopw [13] (fun i wr => FRel w0 ps ((p1, p2), p3) R i wr) (fun i _ => 4 - (intOf i).toNat)
  case atStart => exact ⟨0, by omega, rfl, HR.out, Below.refl _ _⟩
  case round =>
    obtain ⟨k, hk, rfl, hF, hb⟩ := hrel
    have hF := hid hF
    have hbx := hbox.below hb hsz
    have hsz2 : w.heap.size < wr.heap.size := Nat.lt_of_lt_of_le hsz hb.size
    have q0 := hbx.cellv (i := 0) rfl
    have q1 := hbx.cellv (i := 1) rfl
    have q2 := hbx.cellv (i := 2) rfl
    have HBB := hid (hw0.trans (hb.mono hw0.size))
    have hb := hid hb
    clear hbx hbox hw0
    obtain rfl | rfl | rfl | rfl | rfl : k = 0 ∨ k = 1 ∨ k = 2 ∨ k = 3 ∨ k = 4 := by omega
    · clear hk
      cases a0
      · have hF' : findP (List.drop (1) ps) ((p1, p2), p3) (1) = R := by rw [← hF.out, HP.out]; simp [findP]
        go_wp2_with fail
        go_roundw
        case rel => exact ⟨1, by omega, by go_num, hF', hb.out.alloc hb.out.size _⟩
        case measure => simp [intOf]
      · obtain ⟨m, hm⟩ : ∃ m, (((a1 : Int) == (p1 : Int) && ((a2 : Int) == (p2 : Int))) && (a3 == p3)) = m := ⟨_, rfl⟩
        have hm2 := hm
        rw [pl_beq] at hm2
        have HM := hid hm2
        clear hm2
        cases m
        · have hF' : findP (List.drop (1) ps) ((p1, p2), p3) (1) = R := by
            have := of_decide_eq_false HM.out
            rw [← hF.out, HP.out]; simp [findP, this]
          go_wp2_with fail
          go_roundw
          case rel => exact ⟨1, by omega, by go_num, hF', hb.out.alloc hb.out.size _⟩
          case measure => simp [intOf]
        · have hF' : R = 0 := by
            have := of_decide_eq_true HM.out
            rw [← hF.out, HP.out]; simp [findP, this]
          go_wp2_with fail
          go_ret
          exact ⟨ret_int hF'.symm, HBB.out.alloc HBB.out.size _⟩
    · clear hk
      cases b0
      · have hF' : findP (List.drop (2) ps) ((p1, p2), p3) (2) = R := by rw [← hF.out, HP.out]; simp [findP]
        go_wp2_with fail
        go_roundw
        case rel => exact ⟨2, by omega, by go_num, hF', hb.out.alloc hb.out.size _⟩
        case measure => simp [intOf]
      · obtain ⟨m, hm⟩ : ∃ m, (((b1 : Int) == (p1 : Int) && ((b2 : Int) == (p2 : Int))) && (b3 == p3)) = m := ⟨_, rfl⟩
        have hm2 := hm
        rw [pl_beq] at hm2
        have HM := hid hm2
        clear hm2
        cases m
        · have hF' : findP (List.drop (2) ps) ((p1, p2), p3) (2) = R := by
            have := of_decide_eq_false HM.out
            rw [← hF.out, HP.out]; simp [findP, this]
          go_wp2_with fail
          go_roundw
          case rel => exact ⟨2, by omega, by go_num, hF', hb.out.alloc hb.out.size _⟩
          case measure => simp [intOf]
        · have hF' : R = 1 := by
            have := of_decide_eq_true HM.out
            rw [← hF.out, HP.out]; simp [findP, this]
          go_wp2_with fail
          go_ret
          exact ⟨ret_int hF'.symm, HBB.out.alloc HBB.out.size _⟩
    · clear hk
      cases c0
      · have hF' : findP (List.drop (3) ps) ((p1, p2), p3) (3) = R := by rw [← hF.out, HP.out]; simp [findP]
        go_wp2_with fail
        go_roundw
        case rel => exact ⟨3, by omega, by go_num, hF', hb.out.alloc hb.out.size _⟩
        case measure => simp [intOf]
      · obtain ⟨m, hm⟩ : ∃ m, (((c1 : Int) == (p1 : Int) && ((c2 : Int) == (p2 : Int))) && (c3 == p3)) = m := ⟨_, rfl⟩
        have hm2 := hm
        rw [pl_beq] at hm2
        have HM := hid hm2
        clear hm2
        cases m
        · have hF' : findP (List.drop (3) ps) ((p1, p2), p3) (3) = R := by
            have := of_decide_eq_false HM.out
            rw [← hF.out, HP.out]; simp [findP, this]
          go_wp2_with fail
          go_roundw
          case rel => exact ⟨3, by omega, by go_num, hF', hb.out.alloc hb.out.size _⟩
          case measure => simp [intOf]
        · have hF' : R = 2 := by
            have := of_decide_eq_true HM.out
            rw [← hF.out, HP.out]; simp [findP, this]
          go_wp2_with fail
          go_ret
          exact ⟨ret_int hF'.symm, HBB.out.alloc HBB.out.size _⟩
    · clear hk
      cases d0
      · have hF' : findP (List.drop (4) ps) ((p1, p2), p3) (4) = R := by rw [← hF.out, HP.out]; simp [findP]
        go_wp2_with fail
        go_roundw
        case rel => exact ⟨4, by omega, by go_num, hF', hb.out.alloc hb.out.size _⟩
        case measure => simp [intOf]
      · obtain ⟨m, hm⟩ : ∃ m, (((d1 : Int) == (p1 : Int) && ((d2 : Int) == (p2 : Int))) && (d3 == p3)) = m := ⟨_, rfl⟩
        have hm2 := hm
        rw [pl_beq] at hm2
        have HM := hid hm2
        clear hm2
        cases m
        · have hF' : findP (List.drop (4) ps) ((p1, p2), p3) (4) = R := by
            have := of_decide_eq_false HM.out
            rw [← hF.out, HP.out]; simp [findP, this]
          go_wp2_with fail
          go_roundw
          case rel => exact ⟨4, by omega, by go_num, hF', hb.out.alloc hb.out.size _⟩
          case measure => simp [intOf]
        · have hF' : R = 3 := by
            have := of_decide_eq_true HM.out
            rw [← hF.out, HP.out]; simp [findP, this]
          go_wp2_with fail
          go_ret
          exact ⟨ret_int hF'.symm, HBB.out.alloc HBB.out.size _⟩
    · have hF' : R = -1 := by rw [← hF.out, HP.out]; rfl
      go_wp2_with fail
      go_ret
      exact ⟨ret_int hF'.symm, HBB.out⟩
end Go.Proofs.YtpjjijhojcfmnaaGreat

namespace Go.Proofs.YtpjjijhojcfmnaaGreat
open Go.RowKit
set_option linter.unusedVariables false
set_option linter.unusedSimpArgs false
set_option maxRecDepth 100000
attribute [local go_sem high] eq_ad eq_pf

theorem Bk.chg {w w' : World} {g o : Nat} {A Z : List Value} {ps : List Plc} {S : Nat → Prop} (H : Bk w g o A Z ps) (h : Chg S w w') (hg : ¬ S g) : Bk w' g o A Z ps := ⟨H.top.chg h hg, H.len, H.pre⟩
theorem Bk.below {w w' : World} {g o : Nat} {A Z : List Value} {ps : List Plc} (H : Bk w g o A Z ps) (h : Below w.heap.size w w') : Bk w' g o A Z ps := H.chg (Chg.of_below h (fun _ => False)) id

def freeP : List Plc → Nat → Int
  | [], _ => -1
  | x :: xs, i => if x.1 = false then (i : Int) else freeP xs (i + 1)
/-- The place that a key is put to; below 0: none. -/
def putI (ps : List Plc) (p : Pf) : Int := if findP ps p 0 < 0 then freeP ps 0 else findP ps p 0
theorem findP_range : ∀ (ps : List Plc) (p : Pf) (i : Nat), findP ps p i = -1 ∨ (i : Int) ≤ findP ps p i ∧ findP ps p i < i + ps.length
  | [], _, _ => Or.inl rfl
  | x :: xs, p, i => by
    unfold findP
    split
    · right; simp; omega
    · rcases findP_range xs p (i + 1) with h | h
      · left; exact h
      · right; simp; omega
theorem freeP_range : ∀ (ps : List Plc) (i : Nat), freeP ps i = -1 ∨ (i : Int) ≤ freeP ps i ∧ freeP ps i < i + ps.length
  | [], _ => Or.inl rfl
  | x :: xs, i => by
    unfold freeP
    split
    · right; simp; omega
    · rcases freeP_range xs (i + 1) with h | h
      · left; exact h
      · right; simp; omega
def PRel (ps : List Plc) (R F : Int) (j k : Value) : Prop := ∃ (k' : Nat) (j' : Int), k' ≤ 4 ∧ k = .int .i64 k' ∧ j = .int .i64 j' ∧ (0 ≤ R ∧ j' = R ∨ R < 0 ∧ j' = R ∧ freeP (ps.drop k') k' = F ∨ R < 0 ∧ 0 ≤ F ∧ j' = F)

theorem bk_flat {ps : List Plc} (hl : ps.length = 4) {k : Nat} (hk : k < 4) {x : Plc} (hx : ps[k]? = some x) (j : Nat) (hj : j < 5) : (ps.flatMap plcEn)[k * 5 + j]? = (plcEn x)[j]? := by
  obtain ⟨a, b, c, d, rfl⟩ := four hl
  obtain rfl | rfl | rfl | rfl : k = 0 ∨ k = 1 ∨ k = 2 ∨ k = 3 := by omega
  all_goals
    simp at hx; subst hx
    obtain rfl | rfl | rfl | rfl | rfl : j = 0 ∨ j = 1 ∨ j = 2 ∨ j = 3 ∨ j = 4 := by omega
    all_goals simp [plcEn]
theorem bk_head {w : World} {g o : Nat} {A Z : List Value} {ps : List Plc} (H : Bk w g o A Z ps) (k : Nat) (hk : k < 4) (x : Plc) (hx : ps[k]? = some x) : w.cell? ⟨g, o + k * 5, none⟩ = some (.bool x.1) :=
  H.top.mid H.pre (j := k * 5) (by have := bk_flat H.len hk hx 0 (by omega); simpa [plcEn] using this)
theorem bk_cells {w : World} {g o : Nat} {A Z : List Value} {ps : List Plc} (H : Bk w g o A Z ps) (k : Nat) (hk : k < 4) (x : Plc) (hx : ps[k]? = some x) :
    w.cell? ⟨g, o + k * 5, none⟩ = some (.bool x.1) ∧ w.cell? ⟨g, o + k * 5 + 1, none⟩ = some (.int .u64 (x.2.1.1.1 : Int)) ∧ w.cell? ⟨g, o + k * 5 + 2, none⟩ = some (.int .u64 (x.2.1.1.2 : Int)) ∧ w.cell? ⟨g, o + k * 5 + 3, none⟩ = some (.int .i64 x.2.1.2) ∧ w.cell? ⟨g, o + k * 5 + 4, none⟩ = some (.int .i64 x.2.2) := by
  have h := fun j hj v (hv : (plcEn x)[j]? = some v) => H.top.mid H.pre (j := k * 5 + j) ((bk_flat H.len hk hx j hj).trans hv)
  simp only [← Nat.add_assoc] at h
  exact ⟨h 0 (by omega) _ rfl, h 1 (by omega) _ rfl, h 2 (by omega) _ rfl, h 3 (by omega) _ rfl, h 4 (by omega) _ rfl⟩
theorem set5 {α : Type} (a b c d e : α) : ∀ (i : Nat) (xs : List α), i + 5 ≤ xs.length → (((((xs.set i a).set (i + 1) b).set (i + 2) c).set (i + 3) d).set (i + 4) e) = xs.take i ++ [a, b, c, d, e] ++ xs.drop (i + 5)
  | 0, x0 :: x1 :: x2 :: x3 :: x4 :: xs, _ => rfl
  | 0, [], h | 0, [_], h | 0, [_, _], h | 0, [_, _, _], h | 0, [_, _, _, _], h => by simp at h
  | i + 1, [], h => by simp at h
  | i + 1, x :: xs, h => by
    have ih := set5 a b c d e i xs (by simp at h; omega)
    show x :: (((((xs.set i a).set (i + 1) b).set (i + 2) c).set (i + 3) d).set (i + 4) e) = _
    rw [ih]; rfl
theorem take_mid {α : Type} {A cs Z : List α} {o : Nat} (hA : A.length = o) (j : Nat) (hj : j ≤ cs.length) : (A ++ cs ++ Z).take (o + j) = A ++ cs.take j := by
  subst hA
  rw [List.append_assoc, List.take_length_add_append, List.take_append_of_le_length hj]
theorem drop_mid {α : Type} {A cs Z : List α} {o : Nat} (hA : A.length = o) (j : Nat) (hj : j ≤ cs.length) : (A ++ cs ++ Z).drop (o + j) = cs.drop j ++ Z := by
  subst hA
  rw [List.append_assoc, List.drop_length_add_append, List.drop_append_of_le_length hj]
theorem drop_mid5 {α : Type} {A cs Z : List α} {o : Nat} (hA : A.length = o) (j : Nat) (hj : j + 5 ≤ cs.length) : (A ++ cs ++ Z).drop (o + j + 5) = cs.drop (j + 5) ++ Z := by rw [Nat.add_assoc]; exact drop_mid hA _ hj
theorem bk_set {w : World} {g o : Nat} {A Z : List Value} {ps : List Plc} (H : Bk w g o A Z ps) (k : Nat) (hk : k < 4) (x : Plc) :
    Bk (((((w.setCell ⟨g, o + k * 5, none⟩ (.bool x.1)).setCell ⟨g, o + k * 5 + 1, none⟩ (.int .u64 (x.2.1.1.1 : Int))).setCell ⟨g, o + k * 5 + 2, none⟩ (.int .u64 (x.2.1.1.2 : Int))).setCell ⟨g, o + k * 5 + 3, none⟩ (.int .i64 x.2.1.2)).setCell ⟨g, o + k * 5 + 4, none⟩ (.int .i64 x.2.2)) g o A Z (ps.set k x) := by
  refine ⟨?_, by simpa using H.len, H.pre⟩
  have h := ((((H.top.set (o + k * 5) (.bool x.1)).set (o + k * 5 + 1) (.int .u64 (x.2.1.1.1 : Int))).set (o + k * 5 + 2) (.int .u64 (x.2.1.1.2 : Int))).set (o + k * 5 + 3) (.int .i64 x.2.1.2)).set (o + k * 5 + 4) (.int .i64 x.2.2)
  have hfl : (ps.flatMap plcEn).length = 20 := by obtain ⟨a, b, c, d, rfl⟩ := four H.len; simp [plcEn]
  have hpre := H.pre
  rw [set5 _ _ _ _ _ _ _ (by simp only [List.length_append]; omega), take_mid H.pre _ (by omega), drop_mid5 H.pre _ (by omega)] at h
  have e : ((ps.set k x).flatMap plcEn) = (ps.flatMap plcEn).take (k * 5) ++ plcEn x ++ (ps.flatMap plcEn).drop (k * 5 + 5) := by
    obtain ⟨a, b, c, d, rfl⟩ := four H.len
    obtain rfl | rfl | rfl | rfl : k = 0 ∨ k = 1 ∨ k = 2 ∨ k = 3 := by omega
    all_goals simp [plcEn]
  rw [e]
  simp only [List.append_assoc] at h ⊢
  exact h

theorem chg5 {w w1 : World} (h : Below w.heap.size w w1) (g o : Nat) (a b c d e : Value) :
    Chg (fun x => x = g) w (((((w1.setCell ⟨g, o, none⟩ a).setCell ⟨g, o + 1, none⟩ b).setCell ⟨g, o + 2, none⟩ c).setCell ⟨g, o + 3, none⟩ d).setCell ⟨g, o + 4, none⟩ e) := by
  have h0 : Chg (fun x => x = g) w w1 := Chg.of_below h _
  have h1 := h0.trans' (Chg.store w1 g o a)
  have h2 := h1.trans' (Chg.store _ g (o + 1) b)
  have h3 := h2.trans' (Chg.store _ g (o + 2) c)
  have h4 := h3.trans' (Chg.store _ g (o + 3) d)
  exact h4.trans' (Chg.store _ g (o + 4) e)

set_option maxHeartbeats 2000000 in
theorem bk_put {w : World} {g o : Nat} {A Z : List Value} {ps : List Plc} (H : Bk w g o A Z ps) (p : Pf) (v : Int) :
    Calls Tryz.prog 67 #[.pointer (some ⟨g, o, none⟩), p.v, .int .i64 v] w fun e w' => e = .returned (.bool (decide (0 ≤ putI ps p))) ∧
      Bk w' g o A Z (if 0 ≤ putI ps p then ps.set (putI ps p).toNat (true, p, v) else ps) ∧ Chg (· = g) w w' := by
  obtain ⟨R, hR⟩ : ∃ R, findP ps p 0 = R := ⟨_, rfl⟩
  obtain ⟨F, hF⟩ : ∃ F, freeP ps 0 = F := ⟨_, rfl⟩
  obtain ⟨J, hJ⟩ : ∃ J, putI ps p = J := ⟨_, rfl⟩
  have hJ' : J = if R < 0 then F else R := by rw [← hJ, ← hR, ← hF]; rfl
  rw [hJ]
  have rR := findP_range ps p 0
  have rF := freeP_range ps 0
  rw [hR, H.len] at rR
  rw [hF, H.len] at rF
  unfold Pf.v
  have H1 : Bk (w.alloc (.cells #[.int .u64 (p.1.1 : Int), .int .u64 (p.1.2 : Int), .int .i64 p.2] 38)) g o A Z ps := ⟨H.top.alloc _, H.len, H.pre⟩
  have c1 := bk_find H1 p
  rw [hR] at c1
  unfold Pf.v at c1
  have hbx := Blk.new_at w #[.int .u64 (p.1.1 : Int), .int .u64 (p.1.2 : Int), .int .i64 p.2] 38 w.heap.size rfl
  have hb0 : Below w.heap.size w (w.alloc (.cells #[.int .u64 (p.1.1 : Int), .int .u64 (p.1.2 : Int), .int .i64 p.2] 38)) := (Below.refl _ _).alloc (Nat.le_refl _) _
  have hgl := H.top.lt
  have C1 := hid c1
  have HBX := hid hbx
  have HB0 := hid hb0
  have HH := hid H1
  have HFF := hid hF
  clear c1 hbx hb0 H1 hR hF hJ
  obtain ⟨⟨p1, p2⟩, p3⟩ := p
  simp only at C1 HBX HB0 HH
  go_enter Tryz.func67, Tryz.ntmps67
  go_wp2_with fail
  refine C1.out.mono ?_
  rintro e w1 ⟨rfl, hb1⟩
  have HB1 : Bk w1 g o A Z ps := HH.out.below hb1
  have hbx1 := HBX.out.below' hb1
  have hc1 : Below w.heap.size w w1 := HB0.out.trans (hb1.mono HB0.out.size)
  have q0 := hbx1.cellv (i := 0) rfl
  have q1 := hbx1.cellv (i := 1) rfl
  have q2 := hbx1.cellv (i := 2) rfl
  have HC1 := hid hc1
  clear hb1 hbx1 hc1 C1 HBX HB0 HH
  have HJ := hid hJ'
  have HR := hid rR
  have HF := hid rF
  clear hJ' rR rF
  go_wp2_with fail
  go_loop [7, 8] (fun j k => PRel ps R F j k) (fun _ k => 4 - (intOf k).toNat)
  case atStart =>
    refine ⟨0, R, by omega, rfl, rfl, ?_⟩
    by_cases h : R < 0
    · right; left; exact ⟨h, rfl, HFF.out⟩
    · left; exact ⟨by omega, rfl⟩
  case round =>
    obtain ⟨k, j, hk, rfl, rfl, hrel⟩ := hrel
    have HREL := hid hrel
    clear hrel
    by_cases hlt : k < 4 ∧ j < 0
    · obtain ⟨hk4, hj⟩ := hlt
      have hr2 : R < 0 ∧ j = R ∧ freeP (ps.drop k) k = F := by rcases HREL.out with h | h | h <;> omega
      obtain ⟨x, hx⟩ : ∃ x, ps[k]? = some x := ⟨_, List.getElem?_eq_getElem (by rw [HB1.len]; exact hk4)⟩
      have hd := bk_head HB1 k hk4 x hx
      have hdr : ps.drop k = x :: ps.drop (k + 1) := by
        have hl : k < ps.length := by rw [HB1.len]; exact hk4
        rw [List.drop_eq_getElem_cons hl]; congr 1
        simpa [List.getElem?_eq_getElem hl] using hx
      rw [hdr] at hr2
      unfold freeP at hr2
      have HR2 := hid hr2
      clear hr2 hdr hx
      obtain ⟨x0, xr⟩ := x
      simp only at HR2 hd
      cases x0
      · go_wp2_with fail
        go_round
        case rel => exact ⟨k + 1, k, by omega, by go_num, rfl, Or.inr (Or.inr ⟨HR2.out.1, by have := HR2.out.2.2; simp at this; omega, by have := HR2.out.2.2; simp at this; omega⟩)⟩
        case measure => simp [intOf]; omega
      · go_wp2_with fail
        go_round
        case rel => exact ⟨k + 1, j, by omega, by go_num, rfl, Or.inr (Or.inl ⟨HR2.out.1, HR2.out.2.1, by have := HR2.out.2.2; simpa using this⟩)⟩
        case measure => simp [intOf]; omega
    · have hjJ : j = J := by
        rcases HREL.out with ⟨h1, h2⟩ | ⟨h1, h2, h3⟩ | ⟨h1, h2, h3⟩
        · rw [HJ.out, if_neg (by omega)]; exact h2
        · have hk4 : k = 4 := by omega
          subst hk4
          have e : ps.drop 4 = [] := by rw [List.drop_eq_nil_of_le (by rw [HB1.len]; omega)]
          rw [e] at h3
          have : F = -1 := h3.symm
          have := HR.out
          rw [HJ.out, if_pos h1]; omega
        · rw [HJ.out, if_pos h1]; exact h3
      have hJr : J < 0 ∨ 0 ≤ J ∧ J < 4 := by have h2 := HR.out; have h3 := HF.out; have h1 := HJ.out; split at h1 <;> omega
      subst hjJ
      clear HREL HJ HR HF HFF
      by_cases h0 : j < 0
      · have hex : k < 4 ∧ j < 0 ∨ ¬ k < 4 := by omega
        have hk4 : ¬ k < 4 := by omega
        clear hlt hex hJr
        go_wp2_with fail
        go_ret
        refine ⟨by first | rfl | (rw [decide_eq_false (by omega)]; rfl), ?_, Chg.of_below HC1.out _⟩
        first | exact HB1 | (rw [if_neg (by omega)]; exact HB1)
      · obtain ⟨m, rfl⟩ := Int.eq_ofNat_of_zero_le (show 0 ≤ j by omega)
        have hm : m < 4 := by omega
        have hs := bk_set HB1 m hm (true, ((p1, p2), p3), v)
        have HS := hid hs
        have f0 := HB1.top.frozen (o + m * 5)
        have f1 := HB1.top.frozen (o + m * 5 + 1)
        have f2 := HB1.top.frozen (o + m * 5 + 2)
        have f3 := HB1.top.frozen (o + m * 5 + 3)
        have f4 := HB1.top.frozen (o + m * 5 + 4)
        obtain ⟨y, hy⟩ : ∃ y, ps[m]? = some y := ⟨_, List.getElem?_eq_getElem (by rw [HB1.len]; exact hm)⟩
        obtain ⟨y0, y1, y2, y3, y4⟩ := bk_cells HB1 m hm y hy
        clear hs hlt hJr h0 hy
        have hk' : ¬ ((m : Int) < 0) := by omega
        by_cases hk4 : k < 4
        all_goals
          go_wp2_with fail
          go_region
          go_wp2_with fail
          go_ret
          exact ⟨rfl, ⟨HS.out.top.drew, HS.out.len, HS.out.pre⟩, (chg5 HC1.out g (o + m * 5) _ _ _ _ _).drew⟩

set_option maxHeartbeats 2000000 in
theorem bk_take {w : World} {g o : Nat} {A Z : List Value} {ps : List Plc} (H : Bk w g o A Z ps) (p : Pf) :
    Calls Tryz.prog 74 #[.pointer (some ⟨g, o, none⟩), p.v] w fun e w' => e = .returned (.bool (decide (0 ≤ findP ps p 0))) ∧
      Bk w' g o A Z (if 0 ≤ findP ps p 0 then ps.set (findP ps p 0).toNat (false, ((0, 0), 0), 0) else ps) ∧ Chg (· = g) w w' := by
  obtain ⟨R, hR⟩ : ∃ R, findP ps p 0 = R := ⟨_, rfl⟩
  rw [hR]
  have rR := findP_range ps p 0
  rw [hR, H.len] at rR
  unfold Pf.v
  have H1 : Bk (w.alloc (.cells #[.int .u64 (p.1.1 : Int), .int .u64 (p.1.2 : Int), .int .i64 p.2] 38)) g o A Z ps := ⟨H.top.alloc _, H.len, H.pre⟩
  have c1 := bk_find H1 p
  rw [hR] at c1
  unfold Pf.v at c1
  have hb0 : Below w.heap.size w (w.alloc (.cells #[.int .u64 (p.1.1 : Int), .int .u64 (p.1.2 : Int), .int .i64 p.2] 38)) := (Below.refl _ _).alloc (Nat.le_refl _) _
  have hgl := H.top.lt
  have C1 := hid c1
  have HB0 := hid hb0
  have HH := hid H1
  clear c1 hb0 H1 hR
  obtain ⟨⟨p1, p2⟩, p3⟩ := p
  simp only at C1 HB0 HH
  have HR := hid rR
  clear rR
  go_enter Tryz.func74, Tryz.ntmps74
  go_wp2_with fail
  refine C1.out.mono ?_
  rintro e w1 ⟨rfl, hb1⟩
  have HB1 : Bk w1 g o A Z ps := HH.out.below hb1
  have hc1 : Below w.heap.size w w1 := HB0.out.trans (hb1.mono HB0.out.size)
  have HC1 := hid hc1
  clear hb1 hc1 C1 HB0 HH
  by_cases h0 : R < 0
  · go_wp2_with fail
    go_ret
    refine ⟨by first | rfl | (rw [decide_eq_false (by omega)]; rfl), ?_, Chg.of_below HC1.out _⟩
    first | exact HB1 | (rw [if_neg (by omega)]; exact HB1)
  · obtain ⟨m, rfl⟩ := Int.eq_ofNat_of_zero_le (show 0 ≤ R by omega)
    have hm : m < 4 := by have := HR.out; omega
    have hs := bk_set HB1 m hm (false, ((0, 0), 0), 0)
    have HS := hid hs
    have f0 := HB1.top.frozen (o + m * 5)
    have f1 := HB1.top.frozen (o + m * 5 + 1)
    have f2 := HB1.top.frozen (o + m * 5 + 2)
    have f3 := HB1.top.frozen (o + m * 5 + 3)
    have f4 := HB1.top.frozen (o + m * 5 + 4)
    obtain ⟨y, hy⟩ : ∃ y, ps[m]? = some y := ⟨_, List.getElem?_eq_getElem (by rw [HB1.len]; exact hm)⟩
    obtain ⟨y0, y1, y2, y3, y4⟩ := bk_cells HB1 m hm y hy
    clear hs h0 hy
    have hk' : ¬ ((m : Int) < 0) := by omega
    go_wp2_with fail
    go_ret
    exact ⟨rfl, HS.out, chg5 HC1.out g (o + m * 5) _ _ _ _ _⟩

/-- What a key has. -/
def valP (ps : List Plc) (p : Pf) : Int := if 0 ≤ findP ps p 0 then (ps.getD (findP ps p 0).toNat (false, ((0, 0), 0), 0)).2.2 else 0
set_option maxHeartbeats 2000000 in
theorem bk_get {w : World} {g o : Nat} {A Z : List Value} {ps : List Plc} (H : Bk w g o A Z ps) (p : Pf) :
    Calls Tryz.prog 55 #[.pointer (some ⟨g, o, none⟩), p.v] w fun e w' => e = .returned (.tuple #[.int .i64 (valP ps p), .bool (decide (0 ≤ findP ps p 0))]) ∧ Below w.heap.size w w' := by
  obtain ⟨R, hR⟩ : ∃ R, findP ps p 0 = R := ⟨_, rfl⟩
  obtain ⟨V, hV⟩ : ∃ V, valP ps p = V := ⟨_, rfl⟩
  have hV' := hV
  unfold valP at hV'
  rw [hR] at hV' ⊢
  rw [hV]
  have rR := findP_range ps p 0
  rw [hR, H.len] at rR
  unfold Pf.v
  have H1 : Bk (w.alloc (.cells #[.int .u64 (p.1.1 : Int), .int .u64 (p.1.2 : Int), .int .i64 p.2] 38)) g o A Z ps := ⟨H.top.alloc _, H.len, H.pre⟩
  have c1 := bk_find H1 p
  rw [hR] at c1
  unfold Pf.v at c1
  have hb0 : Below w.heap.size w (w.alloc (.cells #[.int .u64 (p.1.1 : Int), .int .u64 (p.1.2 : Int), .int .i64 p.2] 38)) := (Below.refl _ _).alloc (Nat.le_refl _) _
  have hgl := H.top.lt
  have C1 := hid c1
  have HB0 := hid hb0
  have HH := hid H1
  have HV := hid hV'
  clear c1 hb0 H1 hR hV hV'
  obtain ⟨⟨p1, p2⟩, p3⟩ := p
  simp only at C1 HB0 HH
  have HR := hid rR
  clear rR
  go_enter Tryz.func55, Tryz.ntmps55
  go_wp2_with fail
  refine C1.out.mono ?_
  rintro e w1 ⟨rfl, hb1⟩
  have HB1 : Bk w1 g o A Z ps := HH.out.below hb1
  have hc1 : Below w.heap.size w w1 := HB0.out.trans (hb1.mono HB0.out.size)
  have HC1 := hid hc1
  clear hb1 hc1 C1 HB0 HH
  by_cases h0 : R < 0
  · have hv0 : V = 0 := by rw [← HV.out, if_neg (by omega)]
    subst hv0
    go_wp2_with fail
    go_ret2
    exact ⟨by first | rfl | (rw [decide_eq_false (by omega)]; rfl), HC1.out⟩
  · obtain ⟨m, rfl⟩ := Int.eq_ofNat_of_zero_le (show 0 ≤ R by omega)
    have hm : m < 4 := by have := HR.out; omega
    obtain ⟨y, hy⟩ : ∃ y, ps[m]? = some y := ⟨_, List.getElem?_eq_getElem (by rw [HB1.len]; exact hm)⟩
    obtain ⟨y0, y1, y2, y3, y4⟩ := bk_cells HB1 m hm y hy
    have hv0 : V = y.2.2 := by rw [← HV.out, if_pos (by omega)]; simp [List.getD_eq_getElem?_getD, hy]
    clear h0 hy
    subst hv0
    have hk' : ¬ ((m : Int) < 0) := by omega
    go_wp2_with fail
    go_ret2
    exact ⟨by first | rfl | (rw [decide_eq_true (by omega)]; rfl), HC1.out⟩
end Go.Proofs.YtpjjijhojcfmnaaGreat

namespace Go.Proofs.YtpjjijhojcfmnaaGreat
open Go.RowKit
set_option linter.unusedVariables false
set_option linter.unusedSimpArgs false
set_option maxRecDepth 100000
attribute [local go_sem high] ix0 ix1 ix2 ix3

/-- A route's cells. -/
def plRt (x : Plc) : List Value := [.int .u64 (x.2.1.1.1 : Int), .int .u64 (x.2.1.1.2 : Int), .int .i64 x.2.1.2, .int .i64 x.2.2]
/-- What is there. -/
def allP (ps : List Plc) : List Plc := ps.filter (·.1)
def allV (ps : List Plc) : List Value := (allP ps).flatMap plRt
theorem allP_next (ps : List Plc) (k : Nat) (x : Plc) (hx : ps[k]? = some x) : allP (ps.take (k + 1)) = allP (ps.take k) ++ if x.1 = true then [x] else [] := by
  obtain ⟨hk, e⟩ := List.getElem?_eq_some_iff.1 hx
  unfold allP
  rw [List.take_succ_eq_append_getElem hk, List.filter_append, e]
  cases h : x.1 <;> simp [h]
theorem rt_info : (Tryz.prog.info? 77).map (fun i => (i.zero, i.size, i.bytes)) = some (some (.agg #[.int .u64 0, .int .u64 0, .int .i64 0, .int .i64 0]), 4, 32) := by kernel_rfl
def ARel (w : World) (ps : List Plc) (v i : Value) (wr : World) : Prop :=
  ∃ k : Nat, k ≤ 4 ∧ i = .int .i64 k ∧ Owns wr w.heap.size 77 4 v (allP (ps.take k)).length (allV (ps.take k)) ∧ Below w.heap.size w wr

theorem alloc_size (w : World) (o : Obj) : (w.alloc o).heap.size = w.heap.size + 1 := by simp
set_option maxHeartbeats 2000000 in
theorem bk_all {w : World} {g o : Nat} {A Z : List Value} {ps : List Plc} (H : Bk w g o A Z ps) :
    Calls Tryz.prog 84 #[.pointer (some ⟨g, o, none⟩)] w fun e w' => ∃ v, e = .returned v ∧ Owns w' w.heap.size 77 4 v (allP ps).length (allV ps) ∧ Below w.heap.size w w' := by
  obtain ⟨top, len, pre⟩ := H
  have hgl := top.lt
  have HL := hid len
  obtain ⟨a, b, c, d, hps⟩ := four len
  clear len
  rw [hps] at top
  obtain ⟨a0, ⟨⟨a1, a2⟩, a3⟩, a4⟩ := a
  obtain ⟨b0, ⟨⟨b1, b2⟩, b3⟩, b4⟩ := b
  obtain ⟨c0, ⟨⟨c1, c2⟩, c3⟩, c4⟩ := c
  obtain ⟨d0, ⟨⟨d1, d2⟩, d3⟩, d4⟩ := d
  have HP := hid hps
  clear hps
  have hrow : w.rangeAt g o [.bool a0, .int .u64 (a1 : Int), .int .u64 (a2 : Int), .int .i64 a3, .int .i64 a4, .bool b0, .int .u64 (b1 : Int), .int .u64 (b2 : Int), .int .i64 b3, .int .i64 b4, .bool c0, .int .u64 (c1 : Int), .int .u64 (c2 : Int), .int .i64 c3, .int .i64 c4, .bool d0, .int .u64 (d1 : Int), .int .u64 (d2 : Int), .int .i64 d3, .int .i64 d4] := top.range pre
  have HRW := hid hrow
  clear hrow top
  go_enter Tryz.func84, Tryz.ntmps84
  go_wp2_with (refine wpList_load_mid rfl 114 _ rfl g o rfl _ _ HRW.out Tryz.underlying114 rfl (by kernel_rfl) ?_)
  clear HRW
  go_loopw [3, 12] (fun v i wr => ARel w ps v i wr) (fun _ i _ => 4 - (intOf i).toNat)
  case atStart => exact ⟨0, by omega, rfl, Owns.nil _ _ _ _, Below.refl _ _⟩
  case round =>
    obtain ⟨k, hk, rfl, hO, hB⟩ := hrel
    by_cases hk4 : k < 4
    · obtain ⟨x, hx⟩ : ∃ x, ps[k]? = some x := ⟨_, List.getElem?_eq_getElem (by rw [HL.out]; exact hk4)⟩
      have hn := allP_next ps k x hx
      have hlen : (allP (ps.take k)).length ≤ 4 := Nat.le_trans (List.length_filter_le _ _) (Nat.le_trans (List.length_take_le _ _) hk)
      have HN := hid hn
      have hx' := hx
      rw [HP.out] at hx'
      clear hn hx
      obtain ⟨n, hnl⟩ : ∃ n, (allP (ps.take k)).length = n := ⟨_, rfl⟩
      rw [hnl] at hO hlen
      have LN := hid hnl
      clear hnl
      obtain ⟨A, cap, rfl, hnc, hcm, hform⟩ := hO.form
      have HF := hid hform
      clear hform
      have hs0 := hB.size
      obtain rfl | rfl | rfl | rfl : k = 0 ∨ k = 1 ∨ k = 2 ∨ k = 3 := by omega
      · simp at hx'
        subst hx'
        cases a0
        · have hO2 : Owns (wr.alloc (.cells #[.bool false, .int .u64 (a1 : Int), .int .u64 (a2 : Int), .int .i64 a3, .int .i64 a4] 113)) w.heap.size 77 4 (.slice A n cap) n (allV (ps.take 0)) := hO.below ((Below.refl _ _).alloc (Nat.le_refl _) _)
          have hB2 := hB.alloc hs0 (.cells #[.bool false, .int .u64 (a1 : Int), .int .u64 (a2 : Int), .int .i64 a3, .int .i64 a4] 113)
          have e : allP (ps.take (0 + 1)) = allP (ps.take 0) := by rw [HN.out]; simp
          have HE := hid e
          have HO2 := hid hO2
          have HB2 := hid hB2
          clear e hO hO2 hB hB2
          go_wp2_with fail
          go_roundw
          case rel => exact ⟨0 + 1, by omega, rfl, by unfold allV at *; rw [HE.out, LN.out]; exact HO2.out, HB2.out⟩
          case measure => simp [intOf]
        · have hO2 : Owns (wr.alloc (.cells #[.bool true, .int .u64 (a1 : Int), .int .u64 (a2 : Int), .int .i64 a3, .int .i64 a4] 113)) w.heap.size 77 4 (.slice A n cap) n (allV (ps.take 0)) := hO.below ((Below.refl _ _).alloc (Nat.le_refl _) _)
          have hB2 := hB.alloc hs0 (.cells #[.bool true, .int .u64 (a1 : Int), .int .u64 (a2 : Int), .int .i64 a3, .int .i64 a4] 113)
          have e : allP (ps.take (0 + 1)) = allP (ps.take 0) ++ [(true, ((a1, a2), a3), a4)] := by rw [HN.out]; simp
          have hs2 := hB2.size
          clear hO
          have HE := hid e
          clear e
          go_wp2_with (at_builtin; refine wpList_push rfl _ _ 47 rfl 77 (.agg #[.int .u64 0, .int .u64 0, .int .i64 0, .int .i64 0]) 4 32 Tryz.underlying47 rt_info rfl (by decide) w.heap.size _ n _ rfl hO2 [.int .u64 (a1 : Int), .int .u64 (a2 : Int), .int .i64 a3, .int .i64 a4] (by rw [alloc_size]; rfl) rfl ?c1 ?c2 ?c3 ?c4 ?_)
          case c1 => first | exact ⟨rfl, rfl, rfl, rfl⟩ | (intro u hu; simp at hu; rcases hu with rfl | rfl | rfl | rfl <;> rfl)
          case c2 => unfold maxLen; omega
          case c3 => omega
          case c4 => first | omega | exact hs2
          intro v' w4 hO4 hC4
          have hB4 := hB2.trans (hC4.below hs2 (fun g hg k => by have := (hO2.base_le g k).1; omega))
          have HO4 := hid hO4
          have HB4 := hid hB4
          clear hO2 hB hB2 hC4 hO4 hB4
          go_wp2_with fail
          go_roundw
          case rel => exact ⟨0 + 1, by omega, rfl, by unfold allV; rw [HE.out, List.length_append, LN.out, List.flatMap_append]; exact HO4.out, HB4.out⟩
          case measure => simp [intOf]
      · simp at hx'
        subst hx'
        cases b0
        · have hO2 : Owns (wr.alloc (.cells #[.bool false, .int .u64 (b1 : Int), .int .u64 (b2 : Int), .int .i64 b3, .int .i64 b4] 113)) w.heap.size 77 4 (.slice A n cap) n (allV (ps.take 1)) := hO.below ((Below.refl _ _).alloc (Nat.le_refl _) _)
          have hB2 := hB.alloc hs0 (.cells #[.bool false, .int .u64 (b1 : Int), .int .u64 (b2 : Int), .int .i64 b3, .int .i64 b4] 113)
          have e : allP (ps.take (1 + 1)) = allP (ps.take 1) := by rw [HN.out]; simp
          have HE := hid e
          have HO2 := hid hO2
          have HB2 := hid hB2
          clear e hO hO2 hB hB2
          go_wp2_with fail
          go_roundw
          case rel => exact ⟨1 + 1, by omega, rfl, by unfold allV at *; rw [HE.out, LN.out]; exact HO2.out, HB2.out⟩
          case measure => simp [intOf]
        · have hO2 : Owns (wr.alloc (.cells #[.bool true, .int .u64 (b1 : Int), .int .u64 (b2 : Int), .int .i64 b3, .int .i64 b4] 113)) w.heap.size 77 4 (.slice A n cap) n (allV (ps.take 1)) := hO.below ((Below.refl _ _).alloc (Nat.le_refl _) _)
          have hB2 := hB.alloc hs0 (.cells #[.bool true, .int .u64 (b1 : Int), .int .u64 (b2 : Int), .int .i64 b3, .int .i64 b4] 113)
          have e : allP (ps.take (1 + 1)) = allP (ps.take 1) ++ [(true, ((b1, b2), b3), b4)] := by rw [HN.out]; simp
          have hs2 := hB2.size
          clear hO
          have HE := hid e
          clear e
          go_wp2_with (at_builtin; refine wpList_push rfl _ _ 47 rfl 77 (.agg #[.int .u64 0, .int .u64 0, .int .i64 0, .int .i64 0]) 4 32 Tryz.underlying47 rt_info rfl (by decide) w.heap.size _ n _ rfl hO2 [.int .u64 (b1 : Int), .int .u64 (b2 : Int), .int .i64 b3, .int .i64 b4] (by rw [alloc_size]; rfl) rfl ?c1 ?c2 ?c3 ?c4 ?_)
          case c1 => first | exact ⟨rfl, rfl, rfl, rfl⟩ | (intro u hu; simp at hu; rcases hu with rfl | rfl | rfl | rfl <;> rfl)
          case c2 => unfold maxLen; omega
          case c3 => omega
          case c4 => first | omega | exact hs2
          intro v' w4 hO4 hC4
          have hB4 := hB2.trans (hC4.below hs2 (fun g hg k => by have := (hO2.base_le g k).1; omega))
          have HO4 := hid hO4
          have HB4 := hid hB4
          clear hO2 hB hB2 hC4 hO4 hB4
          go_wp2_with fail
          go_roundw
          case rel => exact ⟨1 + 1, by omega, rfl, by unfold allV; rw [HE.out, List.length_append, LN.out, List.flatMap_append]; exact HO4.out, HB4.out⟩
          case measure => simp [intOf]
      · simp at hx'
        subst hx'
        cases c0
        · have hO2 : Owns (wr.alloc (.cells #[.bool false, .int .u64 (c1 : Int), .int .u64 (c2 : Int), .int .i64 c3, .int .i64 c4] 113)) w.heap.size 77 4 (.slice A n cap) n (allV (ps.take 2)) := hO.below ((Below.refl _ _).alloc (Nat.le_refl _) _)
          have hB2 := hB.alloc hs0 (.cells #[.bool false, .int .u64 (c1 : Int), .int .u64 (c2 : Int), .int .i64 c3, .int .i64 c4] 113)
          have e : allP (ps.take (2 + 1)) = allP (ps.take 2) := by rw [HN.out]; simp
          have HE := hid e
          have HO2 := hid hO2
          have HB2 := hid hB2
          clear e hO hO2 hB hB2
          go_wp2_with fail
          go_roundw
          case rel => exact ⟨2 + 1, by omega, rfl, by unfold allV at *; rw [HE.out, LN.out]; exact HO2.out, HB2.out⟩
          case measure => simp [intOf]
        · have hO2 : Owns (wr.alloc (.cells #[.bool true, .int .u64 (c1 : Int), .int .u64 (c2 : Int), .int .i64 c3, .int .i64 c4] 113)) w.heap.size 77 4 (.slice A n cap) n (allV (ps.take 2)) := hO.below ((Below.refl _ _).alloc (Nat.le_refl _) _)
          have hB2 := hB.alloc hs0 (.cells #[.bool true, .int .u64 (c1 : Int), .int .u64 (c2 : Int), .int .i64 c3, .int .i64 c4] 113)
          have e : allP (ps.take (2 + 1)) = allP (ps.take 2) ++ [(true, ((c1, c2), c3), c4)] := by rw [HN.out]; simp
          have hs2 := hB2.size
          clear hO
          have HE := hid e
          clear e
          go_wp2_with (at_builtin; refine wpList_push rfl _ _ 47 rfl 77 (.agg #[.int .u64 0, .int .u64 0, .int .i64 0, .int .i64 0]) 4 32 Tryz.underlying47 rt_info rfl (by decide) w.heap.size _ n _ rfl hO2 [.int .u64 (c1 : Int), .int .u64 (c2 : Int), .int .i64 c3, .int .i64 c4] (by rw [alloc_size]; rfl) rfl ?c1 ?c2 ?c3 ?c4 ?_)
          case c1 => first | exact ⟨rfl, rfl, rfl, rfl⟩ | (intro u hu; simp at hu; rcases hu with rfl | rfl | rfl | rfl <;> rfl)
          case c2 => unfold maxLen; omega
          case c3 => omega
          case c4 => first | omega | exact hs2
          intro v' w4 hO4 hC4
          have hB4 := hB2.trans (hC4.below hs2 (fun g hg k => by have := (hO2.base_le g k).1; omega))
          have HO4 := hid hO4
          have HB4 := hid hB4
          clear hO2 hB hB2 hC4 hO4 hB4
          go_wp2_with fail
          go_roundw
          case rel => exact ⟨2 + 1, by omega, rfl, by unfold allV; rw [HE.out, List.length_append, LN.out, List.flatMap_append]; exact HO4.out, HB4.out⟩
          case measure => simp [intOf]
      · simp at hx'
        subst hx'
        cases d0
        · have hO2 : Owns (wr.alloc (.cells #[.bool false, .int .u64 (d1 : Int), .int .u64 (d2 : Int), .int .i64 d3, .int .i64 d4] 113)) w.heap.size 77 4 (.slice A n cap) n (allV (ps.take 3)) := hO.below ((Below.refl _ _).alloc (Nat.le_refl _) _)
          have hB2 := hB.alloc hs0 (.cells #[.bool false, .int .u64 (d1 : Int), .int .u64 (d2 : Int), .int .i64 d3, .int .i64 d4] 113)
          have e : allP (ps.take (3 + 1)) = allP (ps.take 3) := by rw [HN.out]; simp
          have HE := hid e
          have HO2 := hid hO2
          have HB2 := hid hB2
          clear e hO hO2 hB hB2
          go_wp2_with fail
          go_roundw
          case rel => exact ⟨3 + 1, by omega, rfl, by unfold allV at *; rw [HE.out, LN.out]; exact HO2.out, HB2.out⟩
          case measure => simp [intOf]
        · have hO2 : Owns (wr.alloc (.cells #[.bool true, .int .u64 (d1 : Int), .int .u64 (d2 : Int), .int .i64 d3, .int .i64 d4] 113)) w.heap.size 77 4 (.slice A n cap) n (allV (ps.take 3)) := hO.below ((Below.refl _ _).alloc (Nat.le_refl _) _)
          have hB2 := hB.alloc hs0 (.cells #[.bool true, .int .u64 (d1 : Int), .int .u64 (d2 : Int), .int .i64 d3, .int .i64 d4] 113)
          have e : allP (ps.take (3 + 1)) = allP (ps.take 3) ++ [(true, ((d1, d2), d3), d4)] := by rw [HN.out]; simp
          have hs2 := hB2.size
          clear hO
          have HE := hid e
          clear e
          go_wp2_with (at_builtin; refine wpList_push rfl _ _ 47 rfl 77 (.agg #[.int .u64 0, .int .u64 0, .int .i64 0, .int .i64 0]) 4 32 Tryz.underlying47 rt_info rfl (by decide) w.heap.size _ n _ rfl hO2 [.int .u64 (d1 : Int), .int .u64 (d2 : Int), .int .i64 d3, .int .i64 d4] (by rw [alloc_size]; rfl) rfl ?c1 ?c2 ?c3 ?c4 ?_)
          case c1 => first | exact ⟨rfl, rfl, rfl, rfl⟩ | (intro u hu; simp at hu; rcases hu with rfl | rfl | rfl | rfl <;> rfl)
          case c2 => unfold maxLen; omega
          case c3 => omega
          case c4 => first | omega | exact hs2
          intro v' w4 hO4 hC4
          have hB4 := hB2.trans (hC4.below hs2 (fun g hg k => by have := (hO2.base_le g k).1; omega))
          have HO4 := hid hO4
          have HB4 := hid hB4
          clear hO2 hB hB2 hC4 hO4 hB4
          go_wp2_with fail
          go_roundw
          case rel => exact ⟨3 + 1, by omega, rfl, by unfold allV; rw [HE.out, List.length_append, LN.out, List.flatMap_append]; exact HO4.out, HB4.out⟩
          case measure => simp [intOf]
    · have e : ps.take k = ps := List.take_of_length_le (by rw [HL.out]; omega)
      rw [e] at hO
      have HO := hid hO
      have HB := hid hB
      clear hO hB
      go_wp2_with fail
      go_ret
      exact ⟨_, rfl, HO.out, HB.out⟩
end Go.Proofs.YtpjjijhojcfmnaaGreat

namespace Go.Proofs.YtpjjijhojcfmnaaGreat
open Go.RowKit
set_option linter.unusedVariables false
set_option linter.unusedSimpArgs false
set_option maxRecDepth 100000
attribute [local go_sem high] eq_ad eq_pf

theorem set_same_at {α : Type} {l : List α} {k : Nat} {x : α} (h : l[k]? = some x) : l.set k x = l := by
  obtain ⟨hk, rfl⟩ := List.getElem?_eq_some_iff.1 h
  exact List.set_getElem_self hk
theorem bk_set4 {w : World} {g o : Nat} {A Z : List Value} {ps : List Plc} (H : Bk w g o A Z ps) (k : Nat) (hk : k < 4) (y : Plc) (hy : ps[k]? = some y) (hy1 : y.1 = true) (x : Pf × Int) :
    Bk ((((w.setCell ⟨g, o + k * 5 + 1, none⟩ (.int .u64 (x.1.1.1 : Int))).setCell ⟨g, o + k * 5 + 2, none⟩ (.int .u64 (x.1.1.2 : Int))).setCell ⟨g, o + k * 5 + 3, none⟩ (.int .i64 x.1.2)).setCell ⟨g, o + k * 5 + 4, none⟩ (.int .i64 x.2)) g o A Z (ps.set k (true, x)) := by
  refine ⟨?_, by simpa using H.len, H.pre⟩
  have h := (((H.top.set (o + k * 5 + 1) (.int .u64 (x.1.1.1 : Int))).set (o + k * 5 + 2) (.int .u64 (x.1.1.2 : Int))).set (o + k * 5 + 3) (.int .i64 x.1.2)).set (o + k * 5 + 4) (.int .i64 x.2)
  have hfl : (ps.flatMap plcEn).length = 20 := by obtain ⟨a, b, c, d, rfl⟩ := four H.len; simp [plcEn]
  have hpre := H.pre
  have e0 : (A ++ ps.flatMap plcEn ++ Z)[o + k * 5]? = some (.bool true) := by
    have h1 := bk_flat H.len hk hy 0 (by omega)
    rw [List.append_assoc, List.getElem?_append_right (by omega), List.getElem?_append_left (by omega), show o + k * 5 - A.length = k * 5 + 0 by omega, h1]
    simp [plcEn, hy1]
  rw [← set_same_at e0, set5 _ _ _ _ _ _ _ (by simp only [List.length_append]; omega), take_mid H.pre _ (by omega), drop_mid5 H.pre _ (by omega)] at h
  have e : ((ps.set k (true, x)).flatMap plcEn) = (ps.flatMap plcEn).take (k * 5) ++ plcEn (true, x) ++ (ps.flatMap plcEn).drop (k * 5 + 5) := by
    obtain ⟨a, b, c, d, rfl⟩ := four H.len
    obtain rfl | rfl | rfl | rfl : k = 0 ∨ k = 1 ∨ k = 2 ∨ k = 3 := by omega
    all_goals simp [plcEn]
  rw [e]
  simp only [List.append_assoc] at h ⊢
  exact h
theorem chg4 {w w1 : World} (h : Below w.heap.size w w1) (g o : Nat) (b c d e : Value) :
    Chg (fun x => x = g) w ((((w1.setCell ⟨g, o + 1, none⟩ b).setCell ⟨g, o + 2, none⟩ c).setCell ⟨g, o + 3, none⟩ d).setCell ⟨g, o + 4, none⟩ e) := by
  have h0 : Chg (fun x => x = g) w w1 := Chg.of_below h _
  have h2 := h0.trans' (Chg.store _ g (o + 1) b)
  have h3 := h2.trans' (Chg.store _ g (o + 2) c)
  have h4 := h3.trans' (Chg.store _ g (o + 3) d)
  exact h4.trans' (Chg.store _ g (o + 4) e)

set_option maxHeartbeats 2000000 in
theorem bk_swap {w : World} {g o : Nat} {A Z : List Value} {ps : List Plc} (H : Bk w g o A Z ps) (m : Nat) (hm : m < 4) (y : Plc) (hy : ps[m]? = some y) (hy1 : y.1 = true) (p : Pf) (v : Int) :
    Calls Tryz.prog 68 #[.pointer (some ⟨g, o, none⟩), .int .i64 (m : Int), p.v, .int .i64 v] w fun e w' => e = .returned (.tuple #[.agg #[.int .u64 (y.2.1.1.1 : Int), .int .u64 (y.2.1.1.2 : Int), .int .i64 y.2.1.2], .int .i64 y.2.2, .bool true]) ∧
      Bk w' g o A Z (ps.set m (true, p, v)) ∧ Chg (· = g) w w' := by
  unfold Pf.v
  have hgl := H.top.lt
  obtain ⟨y0, y1, y2, y3, y4⟩ := bk_cells H m hm y hy
  rw [hy1] at y0
  have f1 := H.top.frozen (o + m * 5 + 1)
  have f2 := H.top.frozen (o + m * 5 + 2)
  have f3 := H.top.frozen (o + m * 5 + 3)
  have f4 := H.top.frozen (o + m * 5 + 4)
  obtain ⟨⟨p1, p2⟩, p3⟩ := p
  obtain ⟨_, ⟨⟨z1, z2⟩, z3⟩, z4⟩ := y
  simp only at y1 y2 y3 y4 hy1
  subst hy1
  have HH := hid H
  have HY := hid hy
  have hm0 : (0 : Int) ≤ (m : Int) := by omega
  have hm4 : (m : Int) < 4 := by omega
  clear H hy
  go_enter Tryz.func68, Tryz.ntmps68
  go_wp2_with fail
  obtain ⟨w3, hw3⟩ : ∃ w3, ((w.alloc (.cells #[.int .u64 (p1 : Int), .int .u64 (p2 : Int), .int .i64 p3] 38)).alloc (.cells #[.int .u64 0, .int .u64 0, .int .i64 0] 38)).alloc (.cells #[.int .u64 (z1 : Int), .int .u64 (z2 : Int), .int .i64 z3, .int .i64 z4] 77) = w3 := ⟨_, rfl⟩
  have HB := hid (show Below w.heap.size w w3 by rw [← hw3]; exact (((Below.refl _ _).alloc (Nat.le_refl _) _).alloc (by simp) _).alloc (by simp; omega) _)
  have BP := hid (show Blk w3 w.heap.size 38 [.int .u64 (p1 : Int), .int .u64 (p2 : Int), .int .i64 p3] by rw [← hw3]; exact ((Blk.new_at w _ _ _ rfl).alloc _).alloc _)
  have BR := hid (show Blk w3 (w.heap.size + 1) 38 [.int .u64 0, .int .u64 0, .int .i64 0] by rw [← hw3]; exact ((Blk.new_at (w.alloc _) _ _ _ (by simp))).alloc _)
  have BO := hid (show Blk w3 (w.heap.size + 1 + 1) 77 [.int .u64 (z1 : Int), .int .u64 (z2 : Int), .int .i64 z3, .int .i64 z4] by rw [← hw3]; exact Blk.new_at ((w.alloc _).alloc _) _ _ _ (by simp))
  rw [hw3]
  clear hw3
  have HH3 := hid (HH.out.below HB.out)
  obtain ⟨y0, y1, y2, y3, y4⟩ := bk_cells HH3.out m hm _ HY.out
  have f1 := HH3.out.top.frozen (o + m * 5 + 1)
  have f2 := HH3.out.top.frozen (o + m * 5 + 2)
  have f3 := HH3.out.top.frozen (o + m * 5 + 3)
  have f4 := HH3.out.top.frozen (o + m * 5 + 4)
  have b0 := BP.out.cellv (i := 0) rfl
  have b1 := BP.out.cellv (i := 1) rfl
  have b2 := BP.out.cellv (i := 2) rfl
  have r0 := BR.out.cellv (i := 0) rfl
  have r1 := BR.out.cellv (i := 1) rfl
  have r2 := BR.out.cellv (i := 2) rfl
  have rf0 := BR.out.frozen 0
  have rf1 := BR.out.frozen 1
  have rf2 := BR.out.frozen 2
  have t0 := BO.out.cellv (i := 0) rfl
  have t1 := BO.out.cellv (i := 1) rfl
  have t2 := BO.out.cellv (i := 2) rfl
  have t3 := BO.out.cellv (i := 3) rfl
  have hS := bk_set4 HH3.out m hm _ HY.out rfl (((p1, p2), p3), v)
  have hC := chg4 HB.out g (o + m * 5) (.int .u64 (p1 : Int)) (.int .u64 (p2 : Int)) (.int .i64 p3) (.int .i64 v)
  have HS := hid hS
  have HC := hid hC
  clear hS hC
  go_region
  obtain ⟨w4, hw4⟩ : ∃ w4, ((((w3.setCell ⟨g, o + m * 5 + 1, none⟩ (.int .u64 (p1 : Int))).setCell ⟨g, o + m * 5 + 1 + 1, none⟩ (.int .u64 (p2 : Int))).setCell ⟨g, o + m * 5 + 1 + 2, none⟩ (.int .i64 p3)).setCell ⟨g, o + m * 5 + 1 + 3, none⟩ (.int .i64 v)).drew = w4 := ⟨_, rfl⟩
  have HS4 := hid (show Bk w4 g o A Z (ps.set m (true, ((p1, p2), p3), v)) by rw [← hw4]; exact HS.out.chg ((Chg.refl (fun _ => False) _).drew) id)
  have HC4 := hid (show Chg (· = g) w w4 by rw [← hw4]; exact HC.out.drew)
  have h34 : Chg (· = g) w3 w4 := by
    rw [← hw4]
    exact Chg.drew (((((Chg.refl (· = g) w3).setCell (fun _ => rfl) _).setCell (fun _ => rfl) _).setCell (fun _ => rfl) _).setCell (fun _ => rfl) _)
  rw [hw4]
  have BR4 := hid (BR.out.chg h34 (by omega))
  have BO4 := hid (BO.out.chg h34 (by omega))
  clear hw4 h34 HS HC r0 r1 r2 rf0 rf1 rf2 t0 t1 t2 t3 b0 b1 b2 y0 y1 y2 y3 y4 f1 f2 f3 f4
  have r0 := BR4.out.cellv (i := 0) rfl
  have r1 := BR4.out.cellv (i := 1) rfl
  have r2 := BR4.out.cellv (i := 2) rfl
  have rf0 := BR4.out.frozen 0
  have rf1 := BR4.out.frozen 1
  have rf2 := BR4.out.frozen 2
  have t0 := BO4.out.cellv (i := 0) rfl
  have t1 := BO4.out.cellv (i := 1) rfl
  have t2 := BO4.out.cellv (i := 2) rfl
  have t3 := BO4.out.cellv (i := 3) rfl
  go_wp2_with fail
  go_region
  go_wp2_with fail
  refine bodyPost_ret (v := .tuple #[.agg #[.int .u64 (z1 : Int), .int .u64 (z2 : Int), .int .i64 z3], .int .i64 z4, .bool true]) (by simp [results, Tryz.results68, go_sem, r0, r1, r2]) rfl ⟨rfl, ?_, ?_⟩
  · refine Bk.chg (S := (· = w.heap.size + 1)) HS4.out ?_ (by omega)
    repeat apply Chg.drew
    exact (((Chg.refl (· = w.heap.size + 1) w4).setCell (fun _ => rfl) _).setCell (fun _ => rfl) _).setCell (fun _ => rfl) _
  · refine HC4.out.trans (S' := (· = w.heap.size + 1)) ?_ (fun i hi e => by omega)
    repeat apply Chg.drew
    exact (((Chg.refl (· = w.heap.size + 1) w4).setCell (fun _ => rfl) _).setCell (fun _ => rfl) _).setCell (fun _ => rfl) _

end Go.Proofs.YtpjjijhojcfmnaaGreat

namespace Go.Proofs.YtpjjijhojcfmnaaGreat
set_option linter.unusedVariables false
set_option linter.unusedSimpArgs false

def plcZ : Plc := (false, ((0, 0), 0), 0)
def hasB (ps : List Plc) (p : Pf) : Bool := decide (0 ≤ findP ps p 0)
def canB (ps : List Plc) (p : Pf) : Bool := decide (0 ≤ putI ps p)
def putB (ps : List Plc) (p : Pf) (v : Int) : List Plc := if 0 ≤ putI ps p then ps.set (putI ps p).toNat (true, p, v) else ps
def takeB (ps : List Plc) (p : Pf) : List Plc := if 0 ≤ findP ps p 0 then ps.set (findP ps p 0).toNat plcZ else ps
theorem findP_at : ∀ (ps : List Plc) (p : Pf) (i : Nat), (findP ps p i = -1 ∧ ∀ x ∈ ps, x.1 = true → x.2.1 ≠ p) ∨ ∃ (k : Nat) (x : Plc), findP ps p i = ((i + k : Nat) : Int) ∧ ps[k]? = some x ∧ x.1 = true ∧ x.2.1 = p
  | [], _, _ => .inl ⟨rfl, fun x h => by simp at h⟩
  | y :: ps, p, i => by
    unfold findP
    by_cases h : y.1 = true ∧ y.2.1 = p
    · rw [if_pos h]; exact .inr ⟨0, y, rfl, rfl, h.1, h.2⟩
    · rw [if_neg h]
      rcases findP_at ps p (i + 1) with ⟨h1, h2⟩ | ⟨k, x, h1, h2, h3⟩
      · refine .inl ⟨h1, fun x hx hx1 hx2 => ?_⟩
        rcases List.mem_cons.1 hx with rfl | hx
        · exact h ⟨hx1, hx2⟩
        · exact h2 x hx hx1 hx2
      · exact .inr ⟨k + 1, x, by rw [h1]; congr 1; omega, by simpa using h2, h3⟩
theorem freeP_at : ∀ (ps : List Plc) (i : Nat), (freeP ps i = -1 ∧ ∀ x ∈ ps, x.1 = true) ∨ ∃ (k : Nat) (x : Plc), freeP ps i = ((i + k : Nat) : Int) ∧ ps[k]? = some x ∧ x.1 = false
  | [], _ => .inl ⟨rfl, fun x h => by simp at h⟩
  | y :: ps, i => by
    unfold freeP
    by_cases h : y.1 = false
    · rw [if_pos h]; exact .inr ⟨0, y, rfl, rfl, h⟩
    · rw [if_neg h]
      rcases freeP_at ps (i + 1) with ⟨h1, h2⟩ | ⟨k, x, h1, h2, h3⟩
      · refine .inl ⟨h1, fun x hx => ?_⟩
        rcases List.mem_cons.1 hx with rfl | hx
        · simpa using h
        · exact h2 x hx
      · exact .inr ⟨k + 1, x, by rw [h1]; congr 1; omega, by simpa using h2, h3⟩
theorem hasB_no {ps : List Plc} {p : Pf} : hasB ps p = false ↔ ∀ x ∈ ps, x.1 = true → x.2.1 ≠ p := by
  unfold hasB
  rcases findP_at ps p 0 with ⟨h1, h2⟩ | ⟨k, x, h1, h2, h3, h4⟩
  · rw [h1]; exact ⟨fun _ => h2, fun _ => rfl⟩
  · rw [h1]
    refine ⟨fun h => ?_, fun h => absurd h4 (h x (List.mem_of_getElem? h2) h3)⟩
    have := of_decide_eq_false h; omega
/-- What putting does to a bucket. -/
theorem putB_cases (ps : List Plc) (p : Pf) (v : Int) :
    (hasB ps p = true ∧ canB ps p = true ∧ ∃ (k : Nat) (u : Int), ps[k]? = some (true, p, u) ∧ putB ps p v = ps.set k (true, p, v) ∧ valP ps p = u) ∨
    (hasB ps p = false ∧ canB ps p = true ∧ ∃ (k : Nat) (x : Plc), ps[k]? = some x ∧ x.1 = false ∧ putB ps p v = ps.set k (true, p, v)) ∨
    (hasB ps p = false ∧ canB ps p = false ∧ putB ps p v = ps ∧ ∀ x ∈ ps, x.1 = true) := by
  rcases findP_at ps p 0 with ⟨h1, h2⟩ | ⟨k, x, h1, h2, h3, h4⟩
  · rcases freeP_at ps 0 with ⟨f1, f2⟩ | ⟨k, x, f1, f2, f3⟩
    · have e : putI ps p = -1 := by unfold putI; rw [h1, f1]; rfl
      unfold hasB canB putB
      rw [e, h1]
      exact .inr (.inr ⟨rfl, rfl, rfl, f2⟩)
    · have e : putI ps p = (k : Int) := by
        unfold putI; rw [h1, f1]
        show ((0 + k : Nat) : Int) = _
        omega
      unfold hasB canB putB
      rw [e, h1]
      exact .inr (.inl ⟨rfl, decide_eq_true (by omega), k, x, f2, f3, by rw [if_pos (by omega), Int.toNat_natCast]⟩)
  · obtain ⟨x1, x2, x3⟩ := x
    simp only at h3 h4
    subst h3 h4
    rw [Nat.zero_add] at h1
    have e : putI ps x2 = (k : Int) := by unfold putI; rw [h1, if_neg (by omega)]
    unfold hasB canB putB valP
    rw [e, h1]
    refine .inl ⟨decide_eq_true (by omega), decide_eq_true (by omega), k, x3, h2, by rw [if_pos (by omega), Int.toNat_natCast], ?_⟩
    rw [if_pos (by omega), Int.toNat_natCast, List.getD_eq_getElem?_getD, h2]; rfl
theorem takeB_cases (ps : List Plc) (p : Pf) :
    (hasB ps p = true ∧ ∃ (k : Nat) (u : Int), ps[k]? = some (true, p, u) ∧ takeB ps p = ps.set k plcZ ∧ valP ps p = u) ∨ (hasB ps p = false ∧ takeB ps p = ps ∧ valP ps p = 0 ∧ ∀ x ∈ ps, x.1 = true → x.2.1 ≠ p) := by
  unfold hasB takeB valP
  rcases findP_at ps p 0 with ⟨h1, h2⟩ | ⟨k, x, h1, h2, h3, h4⟩
  · rw [h1]; exact .inr ⟨rfl, rfl, rfl, h2⟩
  · rw [h1]
    obtain ⟨x1, x2, x3⟩ := x
    simp only at h3 h4
    subst h3 h4
    refine .inl ⟨decide_eq_true (by omega), k, x3, h2, ?_, ?_⟩
    · rw [if_pos (by omega)]; congr 1; omega
    · rw [if_pos (by omega), show ((0 + k : Nat) : Int).toNat = k by omega, List.getD_eq_getElem?_getD, h2]; rfl

/-! ### Counting -/
theorem cntP_set {α : Type} (q : α → Bool) : ∀ {l : List α} {k : Nat} {y : α} (x : α), l[k]? = some y → (l.set k x).countP q + (q y).toNat = l.countP q + (q x).toNat
  | [], _, _, _, h => by simp at h
  | z :: l, 0, y, x, h => by
    simp at h; subst h
    simp only [List.set_cons_zero, List.countP_cons]
    cases q x <;> cases q z <;> simp
  | z :: l, k + 1, y, x, h => by
    have ih := cntP_set q x (l := l) (k := k) (by simpa using h)
    simp only [List.set_cons_succ, List.countP_cons]
    omega
theorem sum_set {α : Type} (f : α → Nat) : ∀ {l : List α} {k : Nat} {y : α} (x : α), l[k]? = some y → ((l.set k x).map f).sum + f y = (l.map f).sum + f x
  | [], _, _, _, h => by simp at h
  | z :: l, 0, y, x, h => by simp at h; subst h; simp; omega
  | z :: l, k + 1, y, x, h => by
    have ih := sum_set f x (l := l) (k := k) (by simpa using h)
    simp only [List.set_cons_succ, List.map_cons, List.sum_cons]
    omega
theorem sum_ge {α : Type} (f : α → Nat) : ∀ {l : List α} {k : Nat} {y : α}, l[k]? = some y → f y ≤ (l.map f).sum
  | [], _, _, h => by simp at h
  | z :: l, 0, y, h => by simp at h; subst h; simp
  | z :: l, k + 1, y, h => by
    have ih := sum_ge f (l := l) (k := k) (by simpa using h)
    simp only [List.map_cons, List.sum_cons]; omega
def bc (q : Rt → Bool) (ps : List Plc) : Nat := ps.countP fun x => x.1 && q x.2
structure Tb where
  s : Nat
  bs : List (List Plc)
  st : List Rt
def tc (q : Rt → Bool) (t : Tb) : Nat := (t.bs.map (bc q)).sum + t.st.countP q
def entB (ps : List Plc) : List Rt := (allP ps).map (·.2)
def keysT (t : Tb) : List Rt := t.bs.flatMap entB ++ t.st
theorem entB_cnt (q : Rt → Bool) (ps : List Plc) : (entB ps).countP q = bc q ps := by
  unfold entB allP bc
  rw [List.countP_map, List.countP_filter]
  apply List.countP_congr
  intro x _
  simp [and_comm]
theorem flat_cnt (q : Rt → Bool) : ∀ bs : List (List Plc), (bs.flatMap entB).countP q = (bs.map (bc q)).sum
  | [] => rfl
  | b :: bs => by rw [List.flatMap_cons, List.countP_append, entB_cnt, flat_cnt q bs]; rfl
theorem keysT_cnt (q : Rt → Bool) (t : Tb) : (keysT t).countP q = tc q t := by unfold keysT tc; rw [List.countP_append, flat_cnt]
theorem bc_set (q : Rt → Bool) {ps : List Plc} {k : Nat} {y : Plc} (x : Plc) (h : ps[k]? = some y) : bc q (ps.set k x) + (y.1 && q y.2).toNat = bc q ps + (x.1 && q x.2).toNat := cntP_set (fun x : Plc => x.1 && q x.2) x h
def Tb.n (t : Tb) : Nat := t.bs.length
def Tb.b1 (t : Tb) (p : Pf) : Nat := redI (mixN (hashN t.s p ^^^ 1)) (t.n : Int)
def Tb.b2 (t : Tb) (p : Pf) : Nat := redI (mixN (hashN t.s p ^^^ 2)) (t.n : Int)
def Tb.at (t : Tb) (i : Nat) : List Plc := t.bs.getD i []
def Tb.set (t : Tb) (i : Nat) (b : List Plc) : Tb := { t with bs := t.bs.set i b }
def Tb.other (t : Tb) (p : Pf) (i : Nat) : Nat := if i = t.b1 p then t.b2 p else t.b1 p
theorem Tb.set_n (t : Tb) (i : Nat) (b : List Plc) : (t.set i b).n = t.n := by simp [Tb.set, Tb.n]
theorem Tb.set_b1 (t : Tb) (i : Nat) (b : List Plc) (p : Pf) : (t.set i b).b1 p = t.b1 p := by unfold Tb.b1; rw [Tb.set_n]; rfl
theorem Tb.set_b2 (t : Tb) (i : Nat) (b : List Plc) (p : Pf) : (t.set i b).b2 p = t.b2 p := by unfold Tb.b2; rw [Tb.set_n]; rfl
theorem Tb.get_at {t : Tb} {i : Nat} (h : i < t.n) : t.bs[i]? = some (t.at i) := by
  unfold Tb.at; rw [List.getD_eq_getElem?_getD, List.getElem?_eq_getElem h]; rfl
theorem Tb.set_at_same (t : Tb) {i : Nat} (h : i < t.n) (b : List Plc) : (t.set i b).at i = b := by
  unfold Tb.at Tb.set; simp only; rw [List.getD_eq_getElem?_getD, List.getElem?_set_self h]; rfl
theorem tc_set (q : Rt → Bool) (t : Tb) {i : Nat} (h : i < t.n) (b : List Plc) : tc q (t.set i b) + bc q (t.at i) = tc q t + bc q b := by
  unfold tc Tb.set
  have := sum_set (bc q) b (Tb.get_at h)
  simp only; omega
theorem b1_lt {t : Tb} (h : 1 ≤ t.n) (p : Pf) : t.b1 p < t.n := by
  unfold Tb.b1 redI; rw [if_neg (by omega)]; exact redN_lt (mixN_lt _) (by rw [Int.toNat_natCast]; omega)
theorem b2_lt {t : Tb} (h : 1 ≤ t.n) (p : Pf) : t.b2 p < t.n := by
  unfold Tb.b2 redI; rw [if_neg (by omega)]; exact redN_lt (mixN_lt _) (by rw [Int.toNat_natCast]; omega)
theorem other_lt {t : Tb} (h : 1 ≤ t.n) (p : Pf) (i : Nat) : t.other p i < t.n := by unfold Tb.other; split; exact b2_lt h p; exact b1_lt h p
theorem other_is (t : Tb) (p : Pf) (i : Nat) : t.other p i = t.b1 p ∨ t.other p i = t.b2 p := by unfold Tb.other; split; exact .inr rfl; exact .inl rfl
def keyIs (p : Pf) : Rt → Bool := fun r => decide (r.1 = p)
/-- A table as it must be. -/
structure Tb.Ok (t : Tb) : Prop where
  s64 : t.s < 2 ^ 64
  n1 : 1 ≤ t.n
  n2 : t.n ≤ 65536
  len : ∀ b ∈ t.bs, b.length = 4
  srt : t.st.Pairwise (fun x y => x.1.lt y.1)
  ok : ∀ r ∈ keysT t, r.1.1.ok
  one : ∀ p, tc (keyIs p) t ≤ 1
  pl : ∀ (i : Nat) (b : List Plc) (x : Plc), t.bs[i]? = some b → x ∈ b → x.1 = true → i = t.b1 x.2.1 ∨ i = t.b2 x.2.1
theorem bc_pos {q : Rt → Bool} {ps : List Plc} : 0 < bc q ps ↔ ∃ x ∈ ps, x.1 = true ∧ q x.2 = true := by
  unfold bc; rw [List.countP_pos_iff]; simp
theorem bc_has {ps : List Plc} {p : Pf} : hasB ps p = true ↔ 0 < bc (keyIs p) ps := by
  rw [bc_pos]
  cases h : hasB ps p
  · have := hasB_no.1 h
    simp only [keyIs, decide_eq_true_eq]
    exact ⟨fun h => (by cases h), fun ⟨x, hx, h1, h2⟩ => absurd h2 (this x hx h1)⟩
  · refine ⟨fun _ => ?_, fun _ => rfl⟩
    by_cases h2 : ∃ x ∈ ps, x.1 = true ∧ keyIs p x.2 = true
    · exact h2
    · have : hasB ps p = false := hasB_no.2 fun x hx h1 h3 => h2 ⟨x, hx, h1, by simp [keyIs, h3]⟩
      rw [this] at h; cases h
theorem bc_le_tc (q : Rt → Bool) {t : Tb} {i : Nat} (h : i < t.n) : bc q (t.at i) ≤ tc q t := by
  have := sum_ge (bc q) (Tb.get_at h); unfold tc; omega
def isR (r : Rt) : Rt → Bool := fun x => decide (x = r)
theorem isR_self (r : Rt) : isR r r = true := by simp [isR]
theorem isR_ne {r x : Rt} (h : x ≠ r) : isR r x = false := by simp [isR, h]
theorem keysT_mem {t : Tb} {r : Rt} : r ∈ keysT t ↔ 0 < tc (isR r) t := by
  rw [← keysT_cnt, List.countP_pos_iff]; simp [isR]
/-- A table whose keys are all where they belong, told without the count. -/
theorem Tb.Ok.of {t t' : Tb} (h : t.Ok) (hs : t'.s = t.s) (hn : t'.n = t.n) (hst : t'.st.Pairwise (fun x y => x.1.lt y.1)) (hlen : ∀ b ∈ t'.bs, b.length = 4) (hok : ∀ r ∈ keysT t', r.1.1.ok) (h1 : ∀ p, tc (keyIs p) t' ≤ 1)
    (hpl : ∀ (i : Nat) (b : List Plc) (x : Plc), t'.bs[i]? = some b → x ∈ b → x.1 = true → i = t'.b1 x.2.1 ∨ i = t'.b2 x.2.1) : t'.Ok :=
  ⟨by rw [hs]; exact h.s64, by rw [hn]; exact h.n1, by rw [hn]; exact h.n2, hlen, hst, hok, h1, hpl⟩
theorem set_mem {α : Type} {l : List α} {k : Nat} {x y : α} (h : y ∈ l.set k x) : y = x ∨ y ∈ l := (List.mem_or_eq_of_mem_set h).symm
theorem set_pl {t : Tb} {i k : Nat} {p : Pf} {v : Int} (hp : i = t.b1 p ∨ i = t.b2 p) (h : ∀ (i : Nat) (b : List Plc) (x : Plc), t.bs[i]? = some b → x ∈ b → x.1 = true → i = t.b1 x.2.1 ∨ i = t.b2 x.2.1) (hi : i < t.n) :
    ∀ (j : Nat) (b : List Plc) (x : Plc), (t.set i ((t.at i).set k (true, p, v))).bs[j]? = some b → x ∈ b → x.1 = true → j = (t.set i ((t.at i).set k (true, p, v))).b1 x.2.1 ∨ j = (t.set i ((t.at i).set k (true, p, v))).b2 x.2.1 := by
  intro j b x hb hx h1
  rw [Tb.set_b1, Tb.set_b2]
  unfold Tb.set at hb
  simp only at hb
  rw [List.getElem?_set] at hb
  by_cases e : i = j
  · subst e
    rw [if_pos rfl, if_pos (show i < t.bs.length from hi)] at hb
    simp at hb
    subst hb
    rcases set_mem hx with rfl | hx
    · exact hp
    · exact h i _ x (Tb.get_at hi) hx h1
  · rw [if_neg e] at hb; exact h j b x hb hx h1
theorem set_len {t : Tb} {i k : Nat} {x : Plc} (h : ∀ b ∈ t.bs, b.length = 4) (hi : i < t.n) : ∀ b ∈ (t.set i ((t.at i).set k x)).bs, b.length = 4 := by
  intro b hb
  rcases set_mem hb with rfl | hb
  · rw [List.length_set]; exact h _ (List.mem_of_getElem? (Tb.get_at hi))
  · exact h b hb

end Go.Proofs.YtpjjijhojcfmnaaGreat

namespace Go.Proofs.YtpjjijhojcfmnaaGreat
set_option linter.unusedVariables false
set_option linter.unusedSimpArgs false

theorem set_cnt (q : Rt → Bool) {t : Tb} {i k : Nat} {y : Plc} (x : Plc) (hi : i < t.n) (hy : (t.at i)[k]? = some y) : tc q (t.set i ((t.at i).set k x)) + (y.1 && q y.2).toNat = tc q t + (x.1 && q x.2).toNat := by
  have h1 := tc_set q t hi ((t.at i).set k x)
  have h2 := bc_set q x hy
  omega
theorem ok_set {t : Tb} (h : t.Ok) {i k : Nat} {y : Plc} {p : Pf} {v : Int} (hi : i < t.n) (hy : (t.at i)[k]? = some y) (hp : i = t.b1 p ∨ i = t.b2 p) (hpo : p.1.ok) (hx : tc (keyIs p) t ≤ (y.1 && keyIs p y.2).toNat) :
    (t.set i ((t.at i).set k (true, p, v))).Ok := by
  have hc := fun q => set_cnt q (true, p, v) hi hy
  simp only [Bool.true_and] at hc
  refine h.of rfl (Tb.set_n _ _ _) h.srt (set_len h.len hi) (fun r hr => ?_) (fun p2 => ?_) (set_pl hp h.pl hi)
  · rw [keysT_mem] at hr
    have h1 := hc (isR r)
    by_cases e : (p, v) = r
    · subst e; exact hpo
    · have : (isR r (p, v)).toNat = 0 := by rw [isR_ne e]; rfl
      exact h.ok r (keysT_mem.2 (by omega))
  · have h1 := hc (keyIs p2)
    have h2 := h.one p2
    by_cases e : p = p2
    · subst e
      have : (keyIs p (p, v)).toNat = 1 := by simp [keyIs]
      omega
    · have : (keyIs p2 (p, v)).toNat = 0 := by simp [keyIs, e]
      omega
theorem at_len {t : Tb} (h : t.Ok) {i : Nat} (hi : i < t.n) : (t.at i).length = 4 := h.len _ (List.mem_of_getElem? (Tb.get_at hi))
theorem has_tc {t : Tb} {i : Nat} (hi : i < t.n) {p : Pf} (h : tc (keyIs p) t = 0) : hasB (t.at i) p = false := by
  cases e : hasB (t.at i) p
  · rfl
  · have := bc_has.1 e
    have := bc_le_tc (keyIs p) hi
    omega
def oc (q : Rt → Bool) : Option Rt → Nat
  | none => 0
  | some r => (q r).toNat
def kick : Nat → Nat → Tb → Pf → Int → Nat → Tb × Option Rt
  | 0, _, t, p, v, _ => (t, some (p, v))
  | k + 1, i, t, p, v, a =>
    let y := (t.at a).getD (i % 4) plcZ
    let t1 := t.set a ((t.at a).set (i % 4) (true, p, v))
    let a' := t1.other y.2.1 a
    if canB (t1.at a') y.2.1 then (t1.set a' (putB (t1.at a') y.2.1 y.2.2), none) else kick k (i + 1) t1 y.2.1 y.2.2 a'
structure KickOk (t : Tb) (p : Pf) (v : Int) (r : Tb × Option Rt) : Prop where
  ok : r.1.Ok
  n : r.1.n = t.n
  s : r.1.s = t.s
  st : r.1.st = t.st
  cnt : ∀ q, tc q r.1 + oc q r.2 = tc q t + (q (p, v)).toNat
  left : ∀ r', r.2 = some r' → r'.1.1.ok ∧ tc (keyIs r'.1) r.1 = 0
theorem kick_step {t : Tb} (h : t.Ok) {i : Nat} {p : Pf} {v : Int} {a : Nat} (hp : p.1.ok) (h0 : tc (keyIs p) t = 0) (ha : a = t.b1 p ∨ a = t.b2 p) (han : a < t.n) (hfull : ∀ x ∈ t.at a, x.1 = true) :
    ∃ (p' : Pf) (v' : Int), (t.at a)[i % 4]? = some (true, p', v') ∧ (t.at a).getD (i % 4) plcZ = (true, p', v') ∧ (t.set a ((t.at a).set (i % 4) (true, p, v))).Ok ∧ p'.1.ok ∧ tc (keyIs p') (t.set a ((t.at a).set (i % 4) (true, p, v))) = 0 ∧
      ∀ q, tc q (t.set a ((t.at a).set (i % 4) (true, p, v))) + (q (p', v')).toNat = tc q t + (q (p, v)).toNat := by
  have hl := at_len h han
  obtain ⟨y, hy⟩ : ∃ y, (t.at a)[i % 4]? = some y := ⟨_, List.getElem?_eq_getElem (by rw [hl]; exact Nat.mod_lt _ (by decide))⟩
  have hy1 := hfull y (List.mem_of_getElem? hy)
  obtain ⟨y0, p', v'⟩ := y
  simp only at hy1
  subst hy1
  have hc := fun q => set_cnt q (true, p, v) han hy
  simp only [Bool.true_and] at hc
  have hpos : 0 < tc (isR (p', v')) t := by
    have h1 : 0 < bc (isR (p', v')) (t.at a) := bc_pos.2 ⟨_, List.mem_of_getElem? hy, rfl, isR_self _⟩
    have := bc_le_tc (isR (p', v')) han
    omega
  have hk1 : 0 < tc (keyIs p') t := by
    have h1 : 0 < bc (keyIs p') (t.at a) := bc_pos.2 ⟨_, List.mem_of_getElem? hy, rfl, by simp [keyIs]⟩
    have := bc_le_tc (keyIs p') han
    omega
  have hne : p ≠ p' := fun e => by subst e; omega
  refine ⟨p', v', hy, by rw [List.getD_eq_getElem?_getD, hy]; rfl, ok_set h han hy ha hp (by omega), h.ok _ (keysT_mem.2 hpos), ?_, hc⟩
  have h1 := hc (keyIs p')
  have h2 := h.one p'
  have e1 : (keyIs p' (p', v')).toNat = 1 := by simp [keyIs]
  have e2 : (keyIs p' (p, v)).toNat = 0 := by simp [keyIs, hne]
  omega
theorem kick_ok : ∀ (k i : Nat) {t : Tb} {p : Pf} {v : Int} {a : Nat}, t.Ok → p.1.ok → tc (keyIs p) t = 0 → (a = t.b1 p ∨ a = t.b2 p) → a < t.n → (∀ x ∈ t.at a, x.1 = true) → KickOk t p v (kick k i t p v a)
  | 0, i, t, p, v, a, h, hp, h0, ha, han, hf => ⟨h, rfl, rfl, rfl, fun q => rfl, fun r' e => by simp [kick] at e; subst e; exact ⟨hp, h0⟩⟩
  | k + 1, i, t, p, v, a, h, hp, h0, ha, han, hf => by
    obtain ⟨p', v', hy, hg, ht1, hp', hz, hc⟩ := kick_step (i := i) (v := v) h hp h0 ha han hf
    unfold kick
    simp only [hg]
    generalize ht : t.set a ((t.at a).set (i % 4) (true, p, v)) = t1 at *
    have hn : t1.n = t.n := by rw [← ht, Tb.set_n]
    have hs : t1.s = t.s := by rw [← ht]; rfl
    have hst : t1.st = t.st := by rw [← ht]; rfl
    have hlt := other_lt ht1.n1 p' a
    have his := other_is t1 p' a
    generalize t1.other p' a = a' at *
    rcases putB_cases (t1.at a') p' v' with ⟨h1, _⟩ | ⟨h1, h2, k2, x, h3, h4, h5⟩ | ⟨h1, h2, h3, h4⟩
    · rw [has_tc hlt hz] at h1; cases h1
    · rw [if_pos h2, h5]
      have hc2 := fun q => set_cnt q (true, p', v') hlt h3
      simp only [Bool.true_and, h4, Bool.false_and] at hc2
      refine ⟨ok_set ht1 hlt h3 his hp' (by omega), by rw [Tb.set_n]; exact hn, hs, hst, fun q => ?_, fun r' e => by cases e⟩
      have := hc q
      have := hc2 q
      show tc q (t1.set a' _) + 0 = _
      simp only [Bool.toNat_false] at *
      omega
    · rw [if_neg (by rw [h2]; decide)]
      have ih := kick_ok k (i + 1) (v := v') ht1 hp' hz his hlt h4
      refine ⟨ih.ok, ih.n.trans hn, ih.s.trans hs, ih.st.trans hst, fun q => ?_, ih.left⟩
      have := ih.cnt q
      have := hc q
      omega

/-! ### The whole of Put -/
def stHas (t : Tb) (p : Pf) : Bool := decide (∃ r ∈ t.st, r.1 = p)
def putStep (grow : Tb → Tb) (t : Tb) (p : Pf) (v : Int) : Tb :=
  if hasB (t.at (t.b1 p)) p then t.set (t.b1 p) (putB (t.at (t.b1 p)) p v)
  else if hasB (t.at (t.b2 p)) p then t.set (t.b2 p) (putB (t.at (t.b2 p)) p v)
  else if stHas t p then { t with st := intoL t.st (p, v) }
  else if canB (t.at (t.b1 p)) p then t.set (t.b1 p) (putB (t.at (t.b1 p)) p v)
  else if canB (t.at (t.b2 p)) p then t.set (t.b2 p) (putB (t.at (t.b2 p)) p v)
  else match kick 16 0 t p v (t.b2 p) with
    | (t', none) => t'
    | (t', some r) => if 8 < (intoL t'.st r).length ∧ t'.n < 65536 then grow { t' with st := intoL t'.st r } else { t' with st := intoL t'.st r }
def fresh (t : Tb) : Tb := ⟨mixN t.s, List.replicate (min (2 * t.n) 65536) [plcZ, plcZ, plcZ, plcZ], []⟩
def growStep (put : Tb → Pf → Int → Tb) (t : Tb) : Tb := (keysT t).foldl (fun t r => put t r.1 r.2) (fresh t)
def putT : Nat → Tb → Pf → Int → Tb
  | 0 => putStep id
  | d + 1 => putStep (growStep (putT d))
theorem into_cnt (q : Rt → Bool) (r : Rt) : ∀ (l : List Rt), (∀ x ∈ l, x.1 ≠ r.1) → (intoL l r).countP q = l.countP q + (q r).toNat
  | [], _ => by simp [intoL, List.countP_cons]; cases q r <;> rfl
  | x :: l, h => by
    have ih := into_cnt q r l fun y hy => h y (by simp [hy])
    unfold intoL
    split
    · simp only [List.countP_cons, ih]; omega
    · rw [if_neg (h x (by simp))]
      simp only [List.countP_cons]; cases q r <;> simp
theorem into_cnt_old (q : Rt → Bool) (r : Rt) {u : Int} : ∀ (l : List Rt), l.Pairwise (fun x y => x.1.lt y.1) → (r.1, u) ∈ l → (intoL l r).countP q + (q (r.1, u)).toNat = l.countP q + (q r).toNat ∧ (intoL l r).length = l.length
  | [], _, h => by simp at h
  | x :: l, hl, h => by
    rw [List.pairwise_cons] at hl
    unfold intoL
    by_cases e : x.1.lt r.1
    · rw [if_pos e]
      have hm : (r.1, u) ∈ l := by
        rcases List.mem_cons.1 h with h | h
        · subst h; exact absurd e (pf_lt_irrefl _)
        · exact h
      have ih := into_cnt_old q r l hl.2 hm
      simp only [List.countP_cons, List.length_cons]; omega
    · rw [if_neg e]
      by_cases e2 : x.1 = r.1
      · rw [if_pos e2]
        have hx : x = (r.1, u) := by
          rcases List.mem_cons.1 h with h | h
          · exact h.symm
          · have := hl.1 _ h; simp only at this; rw [e2] at this; exact absurd this (pf_lt_irrefl _)
        subst hx
        refine ⟨?_, rfl⟩
        simp only [List.countP_cons]; cases q r <;> cases q (r.1, u) <;> simp
      · rcases List.mem_cons.1 h with h | h
        · subst h; exact absurd rfl e2
        · exact absurd (hl.1 _ h) e
structure PutOk (t : Tb) (p : Pf) (v : Int) (t' : Tb) : Prop where
  ok : t'.Ok
  n : t.n ≤ t'.n
  cnt : (tc (keyIs p) t = 0 ∧ ∀ q, tc q t' = tc q t + (q (p, v)).toNat) ∨ (t'.n = t.n ∧ t'.s = t.s ∧ t'.st.length = t.st.length ∧ ∃ u, 0 < tc (isR (p, u)) t ∧ ∀ q, tc q t' + (q (p, u)).toNat = tc q t + (q (p, v)).toNat)
theorem one_val {t : Tb} (h : t.Ok) {p : Pf} {u v : Int} (h1 : 0 < tc (isR (p, u)) t) (h2 : 0 < tc (isR (p, v)) t) : u = v := by
  by_cases e : u = v
  · exact e
  · have h3 := h.one p
    rw [← keysT_cnt] at h1 h2 h3
    have : ∀ l : List Rt, l.countP (isR (p, u)) + l.countP (isR (p, v)) ≤ l.countP (keyIs p) := by
      intro l
      induction l with
      | nil => simp
      | cons x l ih =>
        simp only [List.countP_cons]
        by_cases e1 : x = (p, u)
        · subst e1
          have a1 := isR_self (p, u)
          have a2 : isR (p, v) (p, u) = false := isR_ne (by simp [e])
          have a3 : keyIs p (p, u) = true := by simp [keyIs]
          rw [a1, a2, a3]; simp; omega
        · by_cases e2 : x = (p, v)
          · subst e2
            have a1 := isR_self (p, v)
            have a2 : isR (p, u) (p, v) = false := isR_ne e1
            have a3 : keyIs p (p, v) = true := by simp [keyIs]
            rw [a1, a2, a3]; simp; omega
          · rw [isR_ne e1, isR_ne e2]; simp; omega
    have := this (keysT t)
    omega
theorem tc_st (q : Rt → Bool) (t : Tb) (l : List Rt) : tc q { t with st := l } + t.st.countP q = tc q t + l.countP q := by unfold tc; simp only; omega
theorem st_le_tc (q : Rt → Bool) (t : Tb) : t.st.countP q ≤ tc q t := by unfold tc; omega
theorem ok_st {t : Tb} (h : t.Ok) {l : List Rt} (hs : l.Pairwise (fun x y => x.1.lt y.1)) (hok : ∀ r ∈ l, r.1.1.ok) (h1 : ∀ p, tc (keyIs p) { t with st := l } ≤ 1) : ({ t with st := l } : Tb).Ok := by
  refine h.of rfl rfl hs h.len (fun r hr => ?_) h1 h.pl
  unfold keysT at hr
  rcases List.mem_append.1 hr with hr | hr
  · exact h.ok r (by unfold keysT; exact List.mem_append.2 (.inl hr))
  · exact hok r hr
theorem empty_bc (q : Rt → Bool) : bc q [plcZ, plcZ, plcZ, plcZ] = 0 := rfl
theorem fresh_tc (q : Rt → Bool) (t : Tb) : tc q (fresh t) = 0 := by
  unfold tc fresh
  simp only [List.map_replicate, empty_bc, List.countP_nil, Nat.add_zero]
  induction min (2 * t.n) 65536 with
  | zero => rfl
  | succ n ih => simp [List.replicate_succ, ih]
theorem fresh_n (t : Tb) : (fresh t).n = min (2 * t.n) 65536 := by simp [fresh, Tb.n]
theorem fresh_ok {t : Tb} (h : t.Ok) : (fresh t).Ok := by
  refine ⟨mixN_lt _, by rw [fresh_n]; have := h.n1; omega, by rw [fresh_n]; omega, fun b hb => ?_, .nil, fun r hr => ?_, fun p => by rw [fresh_tc]; omega, fun i b x hb hx h1 => ?_⟩
  · have := List.eq_of_mem_replicate hb; subst this; rfl
  · rw [keysT_mem, fresh_tc] at hr; omega
  · have := List.eq_of_mem_replicate (List.mem_of_getElem? hb)
    subst this
    simp at hx
    subst hx
    cases h1
/-- Putting keys, none of which is there, one behind the other. -/
theorem puts_ok {put : Tb → Pf → Int → Tb} (hput : ∀ t p v, t.Ok → p.1.ok → PutOk t p v (put t p v)) : ∀ (l : List Rt) {t : Tb}, t.Ok → (∀ r ∈ l, r.1.1.ok) → (∀ p, tc (keyIs p) t + l.countP (keyIs p) ≤ 1) →
    (l.foldl (fun t r => put t r.1 r.2) t).Ok ∧ t.n ≤ (l.foldl (fun t r => put t r.1 r.2) t).n ∧ ∀ q, tc q (l.foldl (fun t r => put t r.1 r.2) t) = tc q t + l.countP q
  | [], t, h, _, _ => ⟨h, Nat.le_refl _, fun q => by simp⟩
  | r :: l, t, h, ho, h1 => by
    have hr := hput t r.1 r.2 h (ho r (by simp))
    have h0 := h1 r.1
    simp only [List.countP_cons] at h0 h1
    have e1 : keyIs r.1 r = true := by simp [keyIs]
    rw [e1] at h0
    simp only [if_true] at h0
    have hc : ∀ q, tc q (put t r.1 r.2) = tc q t + (q r).toNat := by
      rcases hr.cnt with ⟨_, h2⟩ | ⟨_, _, _, u, h2, _⟩
      · exact h2
      · exfalso
        have : tc (isR (r.1, u)) t ≤ tc (keyIs r.1) t := by
          rw [← keysT_cnt, ← keysT_cnt]
          exact List.countP_mono_left fun x _ hx => by simp [isR] at hx; subst hx; simp [keyIs]
        omega
    have ih := puts_ok hput l hr.ok (fun x hx => ho x (by simp [hx])) (fun p => by have := h1 p; rw [hc]; cases hk : keyIs p r <;> rw [hk] at this <;> simp at this ⊢ <;> omega)
    refine ⟨ih.1, Nat.le_trans hr.n ih.2.1, fun q => ?_⟩
    have h3 := ih.2.2 q
    rw [hc] at h3
    simp only [List.foldl_cons, List.countP_cons]
    cases hq : q r <;> simp [hq] at h3 ⊢ <;> omega
theorem grow_ok {put : Tb → Pf → Int → Tb} (hput : ∀ t p v, t.Ok → p.1.ok → PutOk t p v (put t p v)) {t : Tb} (h : t.Ok) : (growStep put t).Ok ∧ min (2 * t.n) 65536 ≤ (growStep put t).n ∧ ∀ q, tc q (growStep put t) = tc q t := by
  have h1 := puts_ok hput (keysT t) (fresh_ok h) h.ok (fun p => by rw [fresh_tc, keysT_cnt, Nat.zero_add]; exact h.one p)
  unfold growStep
  refine ⟨h1.1, by rw [← fresh_n]; exact h1.2.1, fun q => ?_⟩
  rw [h1.2.2 q, fresh_tc, keysT_cnt, Nat.zero_add]

theorem absent_tc {t : Tb} (h : t.Ok) {p : Pf} (h1 : hasB (t.at (t.b1 p)) p = false) (h2 : hasB (t.at (t.b2 p)) p = false) (h3 : stHas t p = false) : tc (keyIs p) t = 0 := by
  by_cases e : tc (keyIs p) t = 0
  · exact e
  exfalso
  rw [← keysT_cnt] at e
  obtain ⟨r, hr, hk⟩ := List.countP_pos_iff.1 (Nat.pos_of_ne_zero e)
  have hk : r.1 = p := by simpa [keyIs] using hk
  unfold keysT at hr
  rcases List.mem_append.1 hr with hr | hr
  · obtain ⟨b, hb, hr⟩ := List.mem_flatMap.1 hr
    obtain ⟨i, hi⟩ := List.getElem?_of_mem hb
    unfold entB allP at hr
    obtain ⟨x, hx, rfl⟩ := List.mem_map.1 hr
    obtain ⟨hx, hx1⟩ := List.mem_filter.1 hx
    have hat : t.at i = b := by
      have := Tb.get_at (t := t) (i := i) (List.getElem?_eq_some_iff.1 hi).1
      rw [hi] at this; injection this with this; exact this.symm
    have hl := h.pl i b x hi hx hx1
    rw [hk] at hl
    rcases hl with rfl | rfl
    · rw [hat] at h1; exact hasB_no.1 h1 x hx hx1 hk
    · rw [hat] at h2; exact hasB_no.1 h2 x hx hx1 hk
  · unfold stHas at h3
    exact of_decide_eq_false h3 ⟨r, hr, hk⟩
theorem keys_bucket {t : Tb} {i k : Nat} {r : Rt} (hi : i < t.n) (h : (t.at i)[k]? = some (true, r)) : 0 < tc (isR r) t := by
  have h1 : 0 < bc (isR r) (t.at i) := bc_pos.2 ⟨_, List.mem_of_getElem? h, rfl, isR_self _⟩
  have := bc_le_tc (isR r) hi
  omega
theorem put_old {t : Tb} (h : t.Ok) {i k : Nat} {p : Pf} {u : Int} (v : Int) (hi : i < t.n) (hp : i = t.b1 p ∨ i = t.b2 p) (hpo : p.1.ok) (hk : (t.at i)[k]? = some (true, p, u)) : PutOk t p v (t.set i ((t.at i).set k (true, p, v))) := by
  have hc := fun q => set_cnt q (true, p, v) hi hk
  simp only [Bool.true_and] at hc
  have h1 := h.one p
  have e1 : (keyIs p (p, u)).toNat = 1 := by simp [keyIs]
  exact ⟨ok_set h hi hk hp hpo (by simp only [Bool.true_and]; omega), by rw [Tb.set_n]; exact Nat.le_refl _, .inr ⟨Tb.set_n _ _ _, rfl, rfl, u, keys_bucket hi hk, hc⟩⟩
theorem put_free {t : Tb} (h : t.Ok) {i k : Nat} {p : Pf} {x : Plc} (v : Int) (hi : i < t.n) (hp : i = t.b1 p ∨ i = t.b2 p) (hpo : p.1.ok) (hk : (t.at i)[k]? = some x) (hx : x.1 = false) (h0 : tc (keyIs p) t = 0) : PutOk t p v (t.set i ((t.at i).set k (true, p, v))) := by
  have hc := fun q => set_cnt q (true, p, v) hi hk
  simp only [Bool.true_and, hx, Bool.false_and, Bool.toNat_false, Nat.add_zero] at hc
  exact ⟨ok_set h hi hk hp hpo (by rw [h0]; omega), by rw [Tb.set_n]; exact Nat.le_refl _, .inl ⟨h0, hc⟩⟩
theorem stash_no {t : Tb} {p : Pf} (h0 : tc (keyIs p) t = 0) : ∀ x ∈ t.st, x.1 ≠ p := by
  intro x hx e
  have h1 : 0 < t.st.countP (keyIs p) := List.countP_pos_iff.2 ⟨x, hx, by simp [keyIs, e]⟩
  have := st_le_tc (keyIs p) t
  omega
theorem st_ok {t : Tb} (h : t.Ok) : ∀ r ∈ t.st, r.1.1.ok := fun r hr => h.ok r (by unfold keysT; exact List.mem_append.2 (.inr hr))
theorem stash_in {t : Tb} (h : t.Ok) {r : Rt} (hr : r.1.1.ok) (h0 : tc (keyIs r.1) t = 0) : ({ t with st := intoL t.st r } : Tb).Ok ∧ ∀ q, tc q { t with st := intoL t.st r } = tc q t + (q r).toNat := by
  have hc : ∀ q, tc q { t with st := intoL t.st r } = tc q t + (q r).toNat := fun q => by
    have h1 := tc_st q t (intoL t.st r)
    have h2 := into_cnt q r t.st (stash_no h0)
    omega
  refine ⟨ok_st h (into_ord h.srt r) (fun x hx => ?_) (fun p => ?_), hc⟩
  · rcases into_mem hx with rfl | hx
    · exact hr
    · exact st_ok h x hx
  · rw [hc]
    have h1 := h.one p
    by_cases e : r.1 = p
    · subst e; cases keyIs r.1 r <;> simp <;> omega
    · have : keyIs p r = false := by simp [keyIs, e]
      rw [this]; exact h1
theorem stash_old {t : Tb} (h : t.Ok) {p : Pf} {u : Int} (v : Int) (hp : p.1.ok) (hu : (p, u) ∈ t.st) : PutOk t p v { t with st := intoL t.st (p, v) } := by
  have hi := fun q => into_cnt_old q (p, v) t.st h.srt hu
  have hc : ∀ q, tc q { t with st := intoL t.st (p, v) } + (q (p, u)).toNat = tc q t + (q (p, v)).toNat := fun q => by
    have h1 := tc_st q t (intoL t.st (p, v))
    have h2 := (hi q).1
    simp only at h2
    omega
  refine ⟨ok_st h (into_ord h.srt _) (fun x hx => ?_) (fun p2 => ?_), Nat.le_refl _, .inr ⟨rfl, rfl, (hi (keyIs p)).2, u, ?_, hc⟩⟩
  · rcases into_mem hx with rfl | hx
    · exact hp
    · exact st_ok h x hx
  · have h1 := h.one p2
    have h2 := hc (keyIs p2)
    have : keyIs p2 (p, u) = keyIs p2 (p, v) := rfl
    rw [this] at h2
    omega
  · have h1 : 0 < t.st.countP (isR (p, u)) := List.countP_pos_iff.2 ⟨_, hu, isR_self _⟩
    have := st_le_tc (isR (p, u)) t
    omega
theorem putStep_ok {grow : Tb → Tb} (hg : ∀ t, t.Ok → (grow t).Ok ∧ t.n ≤ (grow t).n ∧ ∀ q, tc q (grow t) = tc q t) {t : Tb} (h : t.Ok) {p : Pf} (v : Int) (hp : p.1.ok) : PutOk t p v (putStep grow t p v) := by
  have l1 := b1_lt h.n1 p
  have l2 := b2_lt h.n1 p
  unfold putStep
  rcases putB_cases (t.at (t.b1 p)) p v with ⟨a1, a2, k, u, a3, a4, _⟩ | a
  · rw [if_pos a1, a4]; exact put_old h v l1 (.inl rfl) hp a3
  have a1 : hasB (t.at (t.b1 p)) p = false := by rcases a with a | a <;> exact a.1
  rw [if_neg (by rw [a1]; decide)]
  rcases putB_cases (t.at (t.b2 p)) p v with ⟨b1, b2, k, u, b3, b4, _⟩ | b
  · rw [if_pos b1, b4]; exact put_old h v l2 (.inr rfl) hp b3
  have b1 : hasB (t.at (t.b2 p)) p = false := by rcases b with b | b <;> exact b.1
  rw [if_neg (by rw [b1]; decide)]
  by_cases hst : stHas t p = true
  · rw [if_pos hst]
    obtain ⟨⟨p', u⟩, hr, e⟩ := of_decide_eq_true hst
    simp only at e
    subst e
    exact stash_old h v hp hr
  have hst : stHas t p = false := by simpa using hst
  rw [if_neg (by rw [hst]; decide)]
  have h0 := absent_tc h a1 b1 hst
  rcases a with ⟨_, a2, k, x, a3, a4, a5⟩ | ⟨_, a2, a3, a4⟩
  · rw [if_pos a2, a5]; exact put_free h v l1 (.inl rfl) hp a3 a4 h0
  rw [if_neg (by rw [a2]; decide)]
  rcases b with ⟨_, b2, k, x, b3, b4, b5⟩ | ⟨_, b2, b3, b4⟩
  · rw [if_pos b2, b5]; exact put_free h v l2 (.inr rfl) hp b3 b4 h0
  rw [if_neg (by rw [b2]; decide)]
  have hk := kick_ok 16 0 (v := v) h hp h0 (.inr rfl) l2 b4
  generalize kick 16 0 t p v (t.b2 p) = r at hk
  obtain ⟨t', o⟩ := r
  cases o with
  | none =>
    refine ⟨hk.ok, by rw [hk.n]; exact Nat.le_refl _, .inl ⟨h0, fun q => ?_⟩⟩
    have := hk.cnt q; simp only [oc] at this; omega
  | some r =>
    have hl := hk.left r rfl
    simp only at hl
    obtain ⟨s1, s2⟩ := stash_in hk.ok hl.1 hl.2
    have hn : t'.n = t.n := hk.n
    have hcnt : ∀ q, tc q { t' with st := intoL t'.st r } = tc q t + (q (p, v)).toNat := fun q => by
      have := hk.cnt q; simp only [oc] at this; rw [s2 q]; omega
    simp only
    by_cases hg8 : 8 < (intoL t'.st r).length ∧ t'.n < 65536
    · rw [if_pos hg8]
      obtain ⟨g1, g2, g3⟩ := hg _ s1
      refine ⟨g1, Nat.le_trans (by show t.n ≤ t'.n; omega) g2, .inl ⟨h0, fun q => ?_⟩⟩
      rw [g3 q, hcnt q]
    · rw [if_neg hg8]
      exact ⟨s1, by show t.n ≤ t'.n; omega, .inl ⟨h0, hcnt⟩⟩
theorem putT_ok : ∀ (d : Nat) (t : Tb) (p : Pf) (v : Int), t.Ok → p.1.ok → PutOk t p v (putT d t p v)
  | 0, t, p, v, h, hp => putStep_ok (fun t h => ⟨h, Nat.le_refl _, fun _ => rfl⟩) h v hp
  | d + 1, t, p, v, h, hp => putStep_ok (fun t h => by
      have := grow_ok (putT_ok d) h
      exact ⟨this.1, Nat.le_trans (by have := h.n2; omega) this.2.1, this.2.2⟩) h v hp

end Go.Proofs.YtpjjijhojcfmnaaGreat
