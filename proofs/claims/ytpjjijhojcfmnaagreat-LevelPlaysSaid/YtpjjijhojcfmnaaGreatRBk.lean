/-
  The document's bucket, in the midst of a row of buckets: what a key has, putting, taking, swapping, all. No condition.
-/
import Derived.Test.YtpjjijhojcfmnaaGreatGBuck
import Derived.Test.YtpjjijhojcfmnaaGreatGRef
namespace Go.Proofs.YtpjjijhojcfmnaaGreat
open Go.RowKit
set_option linter.unusedVariables false
set_option linter.unusedSimpArgs false
set_option maxRecDepth 100000
attribute [local go_sem high] eq_pf

def prtEn (x : Plc) : List Value := rtEn x.2
def onEn (x : Plc) : List Value := [.bool x.1]
def rbV (ps : List Plc) : List Value := ps.flatMap prtEn ++ ps.flatMap onEn
structure RBk (w : World) (g o : Nat) (A Z : List Value) (ps : List Plc) : Prop where
  top : Blk w g 84 (A ++ rbV ps ++ Z)
  len : ps.length = 4
  pre : A.length = o
theorem RBk.chg {w w' : World} {g o : Nat} {A Z : List Value} {ps : List Plc} {S : Nat → Prop} (H : RBk w g o A Z ps) (h : Chg S w w') (hg : ¬ S g) : RBk w' g o A Z ps := ⟨H.top.chg h hg, H.len, H.pre⟩
theorem RBk.below {w w' : World} {g o : Nat} {A Z : List Value} {ps : List Plc} (H : RBk w g o A Z ps) (h : Below w.heap.size w w') : RBk w' g o A Z ps := H.chg (Chg.of_below h (fun _ => False)) id
theorem prtEn_len (x : Plc) : (prtEn x).length = 4 := rfl
theorem onEn_len (x : Plc) : (onEn x).length = 1 := rfl
theorem rbV_r {ps : List Plc} (hl : ps.length = 4) {k : Nat} (hk : k < 4) {x : Plc} (hx : ps[k]? = some x) (j : Nat) (hj : j < 4) : (rbV ps)[k * 4 + j]? = (rtEn x.2)[j]? := by
  unfold rbV
  rw [List.getElem?_append_left (by rw [flat_len prtEn_len, hl]; omega)]
  exact flat_get prtEn_len ps k x hx j hj
theorem rbV_on {ps : List Plc} (hl : ps.length = 4) {k : Nat} (hk : k < 4) {x : Plc} (hx : ps[k]? = some x) : (rbV ps)[16 + k]? = some (.bool x.1) := by
  unfold rbV
  rw [List.getElem?_append_right (by rw [flat_len prtEn_len, hl]; omega), flat_len prtEn_len, hl, show 16 + k - 4 * 4 = k * 1 + 0 by omega]
  exact flat_get onEn_len ps k x hx 0 (by decide)
theorem RBk.on {w : World} {g o : Nat} {A Z : List Value} {ps : List Plc} (H : RBk w g o A Z ps) {k : Nat} (hk : k < 4) {x : Plc} (hx : ps[k]? = some x) : w.cell? ⟨g, o + 16 + k, none⟩ = some (.bool x.1) := by
  have h := H.top.mid H.pre (rbV_on H.len hk hx)
  rwa [← Nat.add_assoc] at h
theorem RBk.r {w : World} {g o : Nat} {A Z : List Value} {ps : List Plc} (H : RBk w g o A Z ps) {k : Nat} (hk : k < 4) {x : Plc} (hx : ps[k]? = some x) :
    w.cell? ⟨g, o + k * 4, none⟩ = some (.int .u64 (x.2.1.1.1 : Int)) ∧ w.cell? ⟨g, o + k * 4 + 1, none⟩ = some (.int .u64 (x.2.1.1.2 : Int)) ∧ w.cell? ⟨g, o + k * 4 + 2, none⟩ = some (.int .i64 x.2.1.2) ∧ w.cell? ⟨g, o + k * 4 + 3, none⟩ = some (.int .i64 x.2.2) := by
  have h := fun j v (hj : j < 4) (hv : (rtEn x.2)[j]? = some v) => H.top.mid H.pre ((rbV_r H.len hk hx j hj).trans hv)
  simp only [← Nat.add_assoc] at h
  exact ⟨h 0 _ (by decide) rfl, h 1 _ (by decide) rfl, h 2 _ (by decide) rfl, h 3 _ (by decide) rfl⟩
theorem set_mid {α : Type} {A C Z : List α} {o : Nat} (hA : A.length = o) (i : Nat) (hi : i < C.length) (v : α) : (A ++ C ++ Z).set (o + i) v = A ++ C.set i v ++ Z := by
  subst hA
  rw [List.append_assoc, List.set_append_right _ _ (by omega), show A.length + i - A.length = i by omega, List.set_append_left _ _ hi, List.append_assoc]
theorem rbV_len {ps : List Plc} (hl : ps.length = 4) : (rbV ps).length = 20 := by
  unfold rbV; rw [List.length_append, flat_len prtEn_len, flat_len onEn_len, hl]
theorem rbV_set {ps : List Plc} (hl : ps.length = 4) {k : Nat} (hk : k < 4) (x : Plc) :
    ((((((rbV ps).set (k * 4) (.int .u64 (x.2.1.1.1 : Int))).set (k * 4 + 1) (.int .u64 (x.2.1.1.2 : Int))).set (k * 4 + 2) (.int .i64 x.2.1.2)).set (k * 4 + 3) (.int .i64 x.2.2)).set (16 + k) (.bool x.1)) = rbV (ps.set k x) := by
  obtain ⟨a, b, c, d, rfl⟩ := four hl
  obtain rfl | rfl | rfl | rfl : k = 0 ∨ k = 1 ∨ k = 2 ∨ k = 3 := by omega
  all_goals rfl
/-- The five stores of a place. -/
theorem RBk.store {w : World} {g o : Nat} {A Z : List Value} {ps : List Plc} (H : RBk w g o A Z ps) {k : Nat} (hk : k < 4) (x : Plc) :
    RBk (((((w.setCell ⟨g, o + k * 4, none⟩ (.int .u64 (x.2.1.1.1 : Int))).setCell ⟨g, o + k * 4 + 1, none⟩ (.int .u64 (x.2.1.1.2 : Int))).setCell ⟨g, o + k * 4 + 2, none⟩ (.int .i64 x.2.1.2)).setCell ⟨g, o + k * 4 + 3, none⟩ (.int .i64 x.2.2)).setCell ⟨g, o + 16 + k, none⟩ (.bool x.1)) g o A Z (ps.set k x) := by
  refine ⟨?_, by rw [List.length_set]; exact H.len, H.pre⟩
  have h := (((((H.top.set (o + k * 4) (.int .u64 (x.2.1.1.1 : Int))).set (o + k * 4 + 1) (.int .u64 (x.2.1.1.2 : Int))).set (o + k * 4 + 2) (.int .i64 x.2.1.2)).set (o + k * 4 + 3) (.int .i64 x.2.2)).set (o + 16 + k) (.bool x.1))
  have hl := rbV_len H.len
  rw [set_mid H.pre (k * 4) (by omega), show o + k * 4 + 1 = o + (k * 4 + 1) by omega, set_mid H.pre (k * 4 + 1) (by simp only [List.length_set]; omega), show o + k * 4 + 2 = o + (k * 4 + 2) by omega, set_mid H.pre (k * 4 + 2) (by simp only [List.length_set]; omega),
    show o + k * 4 + 3 = o + (k * 4 + 3) by omega, set_mid H.pre (k * 4 + 3) (by simp only [List.length_set]; omega), show o + 16 + k = o + (16 + k) by omega, set_mid H.pre (16 + k) (by simp only [List.length_set]; omega), rbV_set H.len hk] at h
  rw [show o + k * 4 + 1 = o + (k * 4 + 1) by omega, show o + k * 4 + 2 = o + (k * 4 + 2) by omega, show o + k * 4 + 3 = o + (k * 4 + 3) by omega, show o + 16 + k = o + (16 + k) by omega]
  exact h
theorem chg_set {w w1 : World} {g : Nat} (h : Chg (· = g) w w1) (i : Nat) (v : Value) : Chg (· = g) w (w1.setCell ⟨g, i, none⟩ v) := h.trans' (Chg.store w1 g i v)
theorem chgR {w w1 : World} (h : Below w.heap.size w w1) (g o k : Nat) (a b c d e : Value) :
    Chg (· = g) w (((((w1.setCell ⟨g, o + k * 4, none⟩ a).setCell ⟨g, o + k * 4 + 1, none⟩ b).setCell ⟨g, o + k * 4 + 2, none⟩ c).setCell ⟨g, o + k * 4 + 3, none⟩ d).setCell ⟨g, o + 16 + k, none⟩ e) :=
  chg_set (chg_set (chg_set (chg_set (chg_set (Chg.of_below h _) (o + k * 4) a) (o + k * 4 + 1) b) (o + k * 4 + 2) c) (o + k * 4 + 3) d) (o + 16 + k) e
theorem chgR4 {w w1 : World} (h : Below w.heap.size w w1) (g o k : Nat) (a b c d : Value) :
    Chg (· = g) w ((((w1.setCell ⟨g, o + k * 4, none⟩ a).setCell ⟨g, o + k * 4 + 1, none⟩ b).setCell ⟨g, o + k * 4 + 2, none⟩ c).setCell ⟨g, o + k * 4 + 3, none⟩ d) :=
  chg_set (chg_set (chg_set (chg_set (Chg.of_below h _) (o + k * 4) a) (o + k * 4 + 1) b) (o + k * 4 + 2) c) (o + k * 4 + 3) d
theorem find_next {ps : List Plc} {p : Pf} {k : Nat} {x : Plc} (hx : ps[k]? = some x) : findP (ps.drop k) p k = if x.1 = true ∧ x.2.1 = p then (k : Int) else findP (ps.drop (k + 1)) p (k + 1) := by
  obtain ⟨hk, e⟩ := List.getElem?_eq_some_iff.1 hx
  rw [List.drop_eq_getElem_cons hk, e]; rfl
theorem free_next {ps : List Plc} {k : Nat} {x : Plc} (hx : ps[k]? = some x) : freeP (ps.drop k) k = if x.1 = false then (k : Int) else freeP (ps.drop (k + 1)) (k + 1) := by
  obtain ⟨hk, e⟩ := List.getElem?_eq_some_iff.1 hx
  rw [List.drop_eq_getElem_cons hk, e]; rfl
def RGRel (w w0 : World) (ps : List Plc) (p : Pf) (i : Value) (wr : World) : Prop :=
  ∃ k : Nat, k ≤ 4 ∧ i = .int .i64 k ∧ findP (ps.drop k) p k = findP ps p 0 ∧ Below w0.heap.size w0 wr

set_option maxHeartbeats 2000000 in
theorem rb_get {w : World} {g o : Nat} {A Z : List Value} {ps : List Plc} (H : RBk w g o A Z ps) (p : Pf) :
    Calls Tryz.prog 43 #[.pointer (some ⟨g, o, none⟩), .agg #[.int .u64 (p.1.1 : Int), .int .u64 (p.1.2 : Int), .int .i64 p.2]] w fun e w' => e = .returned (.tuple #[.int .i64 (valP ps p), .bool (hasB ps p)]) ∧ Below w.heap.size w w' := by
  have hgd := guard_pf
  have hb := (Below.refl w.heap.size w).alloc (Nat.le_refl _) (.cells #[.int .u64 (p.1.1 : Int), .int .u64 (p.1.2 : Int), .int .i64 p.2] 38)
  have HH := hid (H.below hb)
  have HP := hid (Blk.new_at w #[.int .u64 (p.1.1 : Int), .int .u64 (p.1.2 : Int), .int .i64 p.2] 38 w.heap.size rfl)
  have HB := hid hb
  have hs0 : w.heap.size < (w.alloc (.cells #[.int .u64 (p.1.1 : Int), .int .u64 (p.1.2 : Int), .int .i64 p.2] 38)).heap.size := by simp
  have HL := hid H.len
  generalize hw0 : w.alloc (.cells #[.int .u64 (p.1.1 : Int), .int .u64 (p.1.2 : Int), .int .i64 p.2] 38) = w0 at *
  obtain ⟨⟨a, b⟩, n⟩ := p
  simp only at HP
  clear H hb
  subst hw0
  go_enter Tryz.func43, Tryz.ntmps43
  go_wp2_with fail
  generalize w.alloc (.cells #[.int .u64 (a : Int), .int .u64 (b : Int), .int .i64 n] 38) = w0 at *
  go_loopw [6] (fun i wr => RGRel w w0 ps ((a, b), n) i wr) (fun i _ => 4 - (intOf i).toNat)
  case atStart => exact ⟨0, by omega, rfl, rfl, Below.refl _ _⟩
  case round =>
    obtain ⟨k, hk, rfl, hf, hbr⟩ := hrel
    have HHr := HH.out.below hbr
    have HPr := HP.out.below' hbr
    have HBr := hid (held_next HB.out hbr)
    have HBR := hid hbr
    have HF := hid hf
    clear hf hbr
    by_cases hk4 : k < 4
    · obtain ⟨x, hx⟩ : ∃ x, ps[k]? = some x := ⟨_, List.getElem?_eq_getElem (by rw [HL.out]; exact hk4)⟩
      have y0 := HHr.on hk4 hx
      obtain ⟨y1, y2, y3, y4⟩ := HHr.r hk4 hx
      have z0 := HPr.cellv (i := 0) rfl
      have z1 := HPr.cellv (i := 1) rfl
      have z2 := HPr.cellv (i := 2) rfl
      have hn := find_next (p := ((a, b), n)) hx
      rw [HF.out] at hn
      have HN := hid hn
      have HX := hid hx
      clear hn hx HHr HPr
      have hbe := pl_beq x.2.1.1.1 x.2.1.1.2 a b x.2.1.2 n
      obtain ⟨x0, ⟨⟨x1, x2⟩, x3⟩, x4⟩ := x
      simp only at y0 y1 y2 y3 y4 HN hbe
      cases x0
      · go_wp2_with fail
        go_quiet (fail)
        go_wp2_with fail
        go_roundw
        case rel => exact ⟨k + 1, by omega, by go_num, by rw [HN.out]; simp, HBR.out.drewN _⟩
        case measure => simp [intOf]; omega
      · by_cases he : (((x1, x2), x3) : Pf) = ((a, b), n)
        · rw [decide_eq_true he] at hbe
          have HE := hid he
          clear he
          go_wp2_with fail
          go_quiet (fail)
          go_wp2_with fail
          go_ret2
          have h1 := HN.out
          rw [if_pos (by exact ⟨by trivial, HE.out⟩)] at h1
          refine ⟨?_, HBr.out.drewN _⟩
          unfold valP hasB
          rw [h1, if_pos (by omega), decide_eq_true (show (0 : Int) ≤ (k : Int) by omega), Int.toNat_natCast, List.getD_eq_getElem?_getD, HX.out]
          rfl
        · rw [decide_eq_false he] at hbe
          have HE := hid he
          clear he
          go_wp2_with fail
          go_quiet (fail)
          go_wp2_with fail
          go_roundw
          case rel => exact ⟨k + 1, by omega, by go_num, by rw [HN.out, if_neg (fun h => HE.out h.2)], HBR.out.drewN _⟩
          case measure => simp [intOf]; omega
    · have hk4' : k = 4 := by omega
      subst hk4'
      have h1 := HF.out
      rw [List.drop_eq_nil_of_le (by rw [HL.out]; exact Nat.le_refl _)] at h1
      have HF1 := hid (show findP ps ((a, b), n) 0 = -1 from h1.symm)
      clear h1
      go_wp2_with fail
      go_ret2
      refine ⟨?_, HBr.out⟩
      unfold valP hasB
      rw [HF1.out]
      rfl

/-! ### Putting -/
def RPRel1 (w0 : World) (ps : List Plc) (j i : Value) (wr : World) : Prop :=
  ∃ k : Nat, k ≤ 4 ∧ i = .int .i64 ((k : Int) - 1) ∧ j = .int .i64 (freeP (ps.drop k) k) ∧ Below w0.heap.size w0 wr
def pickI (ps : List Plc) (p : Pf) (k : Nat) : Int := if findP (ps.drop k) p k < 0 then freeP ps 0 else findP (ps.drop k) p k
def RPRel2 (w0 : World) (ps : List Plc) (p : Pf) (j i : Value) (wr : World) : Prop :=
  ∃ k : Nat, k ≤ 4 ∧ i = .int .i64 ((k : Int) - 1) ∧ j = .int .i64 (pickI ps p k) ∧ Below w0.heap.size w0 wr

set_option maxHeartbeats 2000000 in
theorem rb_put {w : World} {g o : Nat} {A Z : List Value} {ps : List Plc} (H : RBk w g o A Z ps) (p : Pf) (v : Int) :
    Calls Tryz.prog 45 #[.pointer (some ⟨g, o, none⟩), .agg #[.int .u64 (p.1.1 : Int), .int .u64 (p.1.2 : Int), .int .i64 p.2], .int .i64 v] w fun e w' => e = .returned (.bool (canB ps p)) ∧ RBk w' g o A Z (putB ps p v) ∧ Chg (· = g) w w' := by
  have hgd := guard_pf
  have hb := (Below.refl w.heap.size w).alloc (Nat.le_refl _) (.cells #[.int .u64 (p.1.1 : Int), .int .u64 (p.1.2 : Int), .int .i64 p.2] 38)
  have hgl := H.top.lt
  have HH := hid (H.below hb)
  have HP := hid (Blk.new_at w #[.int .u64 (p.1.1 : Int), .int .u64 (p.1.2 : Int), .int .i64 p.2] 38 w.heap.size rfl)
  have HB := hid hb
  have HL := hid H.len
  generalize hw0 : w.alloc (.cells #[.int .u64 (p.1.1 : Int), .int .u64 (p.1.2 : Int), .int .i64 p.2] 38) = w0 at *
  obtain ⟨⟨a, b⟩, n⟩ := p
  simp only at HP
  clear H hb
  have HJ := hid (show putI ps ((a, b), n) = pickI ps ((a, b), n) 0 from rfl)
  have HJ4 := hid (show pickI ps ((a, b), n) 4 = freeP ps 0 by unfold pickI; rw [List.drop_eq_nil_of_le (by rw [HL.out]; exact Nat.le_refl _)]; rfl)
  have HF4 := hid (show freeP (ps.drop 4) 4 = -1 by rw [List.drop_eq_nil_of_le (by rw [HL.out]; exact Nat.le_refl _)]; rfl)
  have HJR := hid (show putI ps ((a, b), n) = -1 ∨ 0 ≤ putI ps ((a, b), n) ∧ putI ps ((a, b), n) < 4 by
    have h1 := findP_range ps ((a, b), n) 0
    have h2 := freeP_range ps 0
    rw [HL.out] at h1 h2
    unfold putI
    split <;> omega)
  subst hw0
  go_enter Tryz.func45, Tryz.ntmps45
  go_wp2_with fail
  generalize w.alloc (.cells #[.int .u64 (a : Int), .int .u64 (b : Int), .int .i64 n] 38) = w0 at *
  go_loopw [7, 8] (fun j i wr => RPRel1 w0 ps j i wr) (fun _ i _ => (intOf i + 1).toNat)
  case atStart => exact ⟨4, by omega, rfl, by rw [HF4.out], Below.refl _ _⟩
  case round =>
    obtain ⟨k, hk, rfl, rfl, hbr⟩ := hrel
    have HHr := HH.out.below hbr
    have HBR := hid hbr
    clear hbr
    cases k with
    | succ k =>
      rw [show ((k + 1 : Nat) : Int) - 1 = (k : Int) by omega]
      obtain ⟨x, hx⟩ : ∃ x, ps[k]? = some x := ⟨_, List.getElem?_eq_getElem (by rw [HL.out]; omega)⟩
      have y0 := HHr.on (by omega) hx
      have hn := free_next hx
      have HN := hid hn
      have hk0 : (0 : Int) ≤ (k : Int) := by omega
      have hk1 : (k : Int) < 4 := by omega
      clear hn hx HHr
      generalize freeP (ps.drop (k + 1)) (k + 1) = f at *
      obtain ⟨x0, xr⟩ := x
      simp only at y0 HN
      cases x0
      · go_wp2_with fail
        go_roundw
        case rel => exact ⟨k, by omega, by go_num, by rw [HN.out]; rfl, HBR.out⟩
        case measure => simp [intOf]
      · go_wp2_with fail
        go_roundw
        case rel => exact ⟨k, by omega, by go_num, by rw [HN.out]; rfl, HBR.out⟩
        case measure => simp [intOf]
    | zero =>
      have hF : freeP (ps.drop 0) 0 = freeP ps 0 := rfl
      rw [hF]
      rw [show ((0 : Nat) : Int) - 1 = -1 from rfl]
      have HH1 := hid (HH.out.below HBR.out)
      have HP1 := hid (HP.out.below' HBR.out)
      have HB1 := hid (held_next HB.out HBR.out)
      clear HBR HH HP HB hF hk
      go_wp2_with fail
      go_loopw [7, 9] (fun j i w2 => RPRel2 wr ps ((a, b), n) j i w2) (fun _ i _ => (intOf i + 1).toNat)
      case atStart => exact ⟨4, by omega, rfl, by rw [HJ4.out], Below.refl _ _⟩
      case round =>
        rename_i w2
        obtain ⟨k, hk, rfl, rfl, hbr⟩ := hrel
        have HHr := HH1.out.below hbr
        have HPr := HP1.out.below' hbr
        have HBR := hid hbr
        clear hbr
        cases k with
        | succ k =>
          rw [show ((k + 1 : Nat) : Int) - 1 = (k : Int) by omega]
          obtain ⟨x, hx⟩ : ∃ x, ps[k]? = some x := ⟨_, List.getElem?_eq_getElem (by rw [HL.out]; omega)⟩
          have y0 := HHr.on (by omega) hx
          obtain ⟨y1, y2, y3, y4⟩ := HHr.r (by omega) hx
          have z0 := HPr.cellv (i := 0) rfl
          have z1 := HPr.cellv (i := 1) rfl
          have z2 := HPr.cellv (i := 2) rfl
          have HN := hid (show pickI ps ((a, b), n) k = if x.1 = true ∧ x.2.1 = ((a, b), n) then (k : Int) else pickI ps ((a, b), n) (k + 1) by
            unfold pickI
            rw [find_next hx]
            split
            · rw [if_neg (by omega)]
            · rfl)
          have hbe := pl_beq x.2.1.1.1 x.2.1.1.2 a b x.2.1.2 n
          have hk0 : (0 : Int) ≤ (k : Int) := by omega
          have hk1 : (k : Int) < 4 := by omega
          clear hx HHr HPr
          generalize pickI ps ((a, b), n) (k + 1) = f at *
          obtain ⟨x0, ⟨⟨x1, x2⟩, x3⟩, x4⟩ := x
          simp only at y0 y1 y2 y3 y4 HN hbe
          cases x0
          · go_wp2_with fail
            go_quiet (fail)
            go_wp2_with fail
            go_roundw
            case rel => exact ⟨k, by omega, by go_num, by rw [HN.out]; simp, HBR.out.drewN _⟩
            case measure => simp [intOf]
          · by_cases he : (((x1, x2), x3) : Pf) = ((a, b), n)
            · rw [decide_eq_true he] at hbe
              have HE := hid he
              clear he
              go_wp2_with fail
              go_quiet (fail)
              go_wp2_with fail
              go_roundw
              case rel => exact ⟨k, by omega, by go_num, by rw [HN.out, if_pos (by exact ⟨by trivial, HE.out⟩)], HBR.out.drewN _⟩
              case measure => simp [intOf]
            · rw [decide_eq_false he] at hbe
              have HE := hid he
              clear he
              go_wp2_with fail
              go_quiet (fail)
              go_wp2_with fail
              go_roundw
              case rel => exact ⟨k, by omega, by go_num, by rw [HN.out, if_neg (fun h => HE.out h.2)], HBR.out.drewN _⟩
              case measure => simp [intOf]
        | zero =>
          rw [← HJ.out]
          have HH2 := hid HHr
          have HB2 := hid (held_next HB1.out HBR.out)
          have z0 := HPr.cellv (i := 0) rfl
          have z1 := HPr.cellv (i := 1) rfl
          have z2 := HPr.cellv (i := 2) rfl
          clear hk
          rw [show ((0 : Nat) : Int) - 1 = -1 from rfl]
          obtain ⟨J, hJ⟩ : ∃ J, putI ps ((a, b), n) = J := ⟨_, rfl⟩
          have HJ' := hid hJ
          rw [hJ] at HJR ⊢
          have hjr := HJR.out
          clear hJ HHr HPr
          by_cases hj : J < 0
          · have hj1 : J = -1 := by omega
            subst hj1
            clear hjr
            go_wp2_with fail
            go_ret
            refine ⟨by unfold canB; rw [HJ'.out]; rfl, ?_, Chg.of_below HB2.out _⟩
            unfold putB
            rw [HJ'.out]
            exact HH2.out
          · obtain ⟨m, rfl⟩ := Int.eq_ofNat_of_zero_le (show 0 ≤ J by omega)
            have hm : m < 4 := by omega
            have hm1 : (m : Int) < 4 := by omega
            have hm0 : (0 : Int) ≤ (m : Int) := by omega
            obtain ⟨y, hy⟩ : ∃ y, ps[m]? = some y := ⟨_, List.getElem?_eq_getElem (by rw [HL.out]; exact hm)⟩
            have HS := hid fun (W : World) (h : RBk W g o A Z ps) => h.store hm (true, ((a, b), n), v)
            have y0 := HH2.out.on hm hy
            obtain ⟨y1, y2, y3, y4⟩ := HH2.out.r hm hy
            have f0 := HH2.out.top.frozen (o + m * 4)
            have f1 := HH2.out.top.frozen (o + m * 4 + 1)
            have f2 := HH2.out.top.frozen (o + m * 4 + 2)
            have f3 := HH2.out.top.frozen (o + m * 4 + 3)
            have f4 := HH2.out.top.frozen (o + 16 + m)
            have hne : w.heap.size ≠ g := by omega
            clear hjr hj hy
            have hnn : ¬ ((m : Int) < 0) := by omega
            go_wp2_with fail
            go_region
            go_wp2_with fail
            go_ret
            have e1 : putB ps ((a, b), n) v = ps.set m (true, ((a, b), n), v) := by
              unfold putB; rw [HJ'.out, if_pos hm0, Int.toNat_natCast]
            have e2 : canB ps ((a, b), n) = true := by unfold canB; rw [HJ'.out]; exact decide_eq_true hm0
            rw [e1, e2]
            have hs := HS.out _ HH2.out
            exact ⟨rfl, ⟨hs.top.drew, hs.len, hs.pre⟩, (chgR HB2.out g o m _ _ _ _ _).drew⟩

/-! ### Taking, swapping -/
set_option maxHeartbeats 2000000 in
theorem rb_take {w : World} {g o : Nat} {A Z : List Value} {ps : List Plc} (H : RBk w g o A Z ps) (p : Pf) :
    Calls Tryz.prog 50 #[.pointer (some ⟨g, o, none⟩), .agg #[.int .u64 (p.1.1 : Int), .int .u64 (p.1.2 : Int), .int .i64 p.2]] w fun e w' => e = .returned (.bool (hasB ps p)) ∧ RBk w' g o A Z (takeB ps p) ∧ Chg (· = g) w w' := by
  have hgd := guard_pf
  have hb := (Below.refl w.heap.size w).alloc (Nat.le_refl _) (.cells #[.int .u64 (p.1.1 : Int), .int .u64 (p.1.2 : Int), .int .i64 p.2] 38)
  have hgl := H.top.lt
  have HH := hid (H.below hb)
  have HP := hid (Blk.new_at w #[.int .u64 (p.1.1 : Int), .int .u64 (p.1.2 : Int), .int .i64 p.2] 38 w.heap.size rfl)
  have HB := hid hb
  have HL := hid H.len
  generalize hw0 : w.alloc (.cells #[.int .u64 (p.1.1 : Int), .int .u64 (p.1.2 : Int), .int .i64 p.2] 38) = w0 at *
  obtain ⟨⟨a, b⟩, n⟩ := p
  simp only at HP
  clear H hb
  subst hw0
  go_enter Tryz.func50, Tryz.ntmps50
  go_wp2_with fail
  generalize w.alloc (.cells #[.int .u64 (a : Int), .int .u64 (b : Int), .int .i64 n] 38) = w0 at *
  go_loopw [5] (fun i wr => RGRel w w0 ps ((a, b), n) i wr) (fun i _ => 4 - (intOf i).toNat)
  case atStart => exact ⟨0, by omega, rfl, rfl, Below.refl _ _⟩
  case round =>
    obtain ⟨k, hk, rfl, hf, hbr⟩ := hrel
    have HHr := HH.out.below hbr
    have HPr := HP.out.below' hbr
    have HBr := hid (held_next HB.out hbr)
    have HBR := hid hbr
    have HF := hid hf
    clear hf hbr
    by_cases hk4 : k < 4
    · obtain ⟨x, hx⟩ : ∃ x, ps[k]? = some x := ⟨_, List.getElem?_eq_getElem (by rw [HL.out]; exact hk4)⟩
      have y0 := HHr.on hk4 hx
      obtain ⟨y1, y2, y3, y4⟩ := HHr.r hk4 hx
      have z0 := HPr.cellv (i := 0) rfl
      have z1 := HPr.cellv (i := 1) rfl
      have z2 := HPr.cellv (i := 2) rfl
      have hn := find_next (p := ((a, b), n)) hx
      rw [HF.out] at hn
      have HN := hid hn
      have HX := hid hx
      have f0 := HHr.top.frozen (o + k * 4)
      have f1 := HHr.top.frozen (o + k * 4 + 1)
      have f2 := HHr.top.frozen (o + k * 4 + 2)
      have f3 := HHr.top.frozen (o + k * 4 + 3)
      have f4 := HHr.top.frozen (o + 16 + k)
      have HS := hid fun (W : World) (h : RBk W g o A Z ps) => h.store hk4 plcZ
      have HHR := hid HHr
      clear hn hx HHr HPr
      have hbe := pl_beq x.2.1.1.1 x.2.1.1.2 a b x.2.1.2 n
      obtain ⟨x0, ⟨⟨x1, x2⟩, x3⟩, x4⟩ := x
      simp only at y0 y1 y2 y3 y4 HN hbe
      cases x0
      · go_wp2_with fail
        go_quiet (fail)
        go_wp2_with fail
        go_roundw
        case rel => exact ⟨k + 1, by omega, by go_num, by rw [HN.out]; simp, HBR.out.drewN _⟩
        case measure => simp [intOf]; omega
      · by_cases he : (((x1, x2), x3) : Pf) = ((a, b), n)
        · rw [decide_eq_true he] at hbe
          have HE := hid he
          clear he
          go_wp2_with fail
          go_quiet (fail)
          go_wp2_with fail
          go_ret
          have h1 := HN.out
          rw [if_pos (by exact ⟨by trivial, HE.out⟩)] at h1
          have h0 : (0 : Int) ≤ (k : Int) := by omega
          have e1 : takeB ps ((a, b), n) = ps.set k plcZ := by unfold takeB; rw [h1, if_pos h0, Int.toNat_natCast]
          have e2 : hasB ps ((a, b), n) = true := by unfold hasB; rw [h1]; exact decide_eq_true h0
          rw [e1, e2]
          have hs := HS.out (wr.drewN nq) (HHR.out.below ((Below.refl wr.heap.size wr).drewN nq))
          exact ⟨rfl, hs, chgR (HBr.out.drewN _) g o k _ _ _ _ _⟩
        · rw [decide_eq_false he] at hbe
          have HE := hid he
          clear he
          go_wp2_with fail
          go_quiet (fail)
          go_wp2_with fail
          go_roundw
          case rel => exact ⟨k + 1, by omega, by go_num, by rw [HN.out, if_neg (fun h => HE.out h.2)], HBR.out.drewN _⟩
          case measure => simp [intOf]; omega
    · have hk4' : k = 4 := by omega
      subst hk4'
      have h1 := HF.out
      rw [List.drop_eq_nil_of_le (by rw [HL.out]; exact Nat.le_refl _)] at h1
      have HF1 := hid (show findP ps ((a, b), n) 0 = -1 from h1.symm)
      have HHR := hid HHr
      clear h1
      go_wp2_with fail
      go_ret
      refine ⟨by unfold hasB; rw [HF1.out]; rfl, ?_, Chg.of_below HBr.out _⟩
      unfold takeB
      rw [HF1.out]
      exact HHR.out
theorem rbV_set4 {ps : List Plc} (hl : ps.length = 4) {k : Nat} (hk : k < 4) (y : Rt) (hy : ps[k]? = some (true, y)) (x : Rt) :
    (((((rbV ps).set (k * 4) (.int .u64 (x.1.1.1 : Int))).set (k * 4 + 1) (.int .u64 (x.1.1.2 : Int))).set (k * 4 + 2) (.int .i64 x.1.2)).set (k * 4 + 3) (.int .i64 x.2)) = rbV (ps.set k (true, x)) := by
  obtain ⟨⟨a, ar⟩, ⟨b, br⟩, ⟨c, cr⟩, ⟨d, dr⟩, rfl⟩ := four hl
  obtain rfl | rfl | rfl | rfl : k = 0 ∨ k = 1 ∨ k = 2 ∨ k = 3 := by omega
  all_goals
    simp at hy
    obtain ⟨rfl, _⟩ := hy
    rfl
theorem RBk.store4 {w : World} {g o : Nat} {A Z : List Value} {ps : List Plc} (H : RBk w g o A Z ps) {k : Nat} (hk : k < 4) (y : Rt) (hy : ps[k]? = some (true, y)) (x : Rt) :
    RBk ((((w.setCell ⟨g, o + k * 4, none⟩ (.int .u64 (x.1.1.1 : Int))).setCell ⟨g, o + k * 4 + 1, none⟩ (.int .u64 (x.1.1.2 : Int))).setCell ⟨g, o + k * 4 + 2, none⟩ (.int .i64 x.1.2)).setCell ⟨g, o + k * 4 + 3, none⟩ (.int .i64 x.2)) g o A Z (ps.set k (true, x)) := by
  refine ⟨?_, by rw [List.length_set]; exact H.len, H.pre⟩
  have h := ((((H.top.set (o + k * 4) (.int .u64 (x.1.1.1 : Int))).set (o + k * 4 + 1) (.int .u64 (x.1.1.2 : Int))).set (o + k * 4 + 2) (.int .i64 x.1.2)).set (o + k * 4 + 3) (.int .i64 x.2))
  have hl := rbV_len H.len
  rw [set_mid H.pre (k * 4) (by omega), show o + k * 4 + 1 = o + (k * 4 + 1) by omega, set_mid H.pre (k * 4 + 1) (by simp only [List.length_set]; omega), show o + k * 4 + 2 = o + (k * 4 + 2) by omega, set_mid H.pre (k * 4 + 2) (by simp only [List.length_set]; omega),
    show o + k * 4 + 3 = o + (k * 4 + 3) by omega, set_mid H.pre (k * 4 + 3) (by simp only [List.length_set]; omega), rbV_set4 H.len hk y hy] at h
  rw [show o + k * 4 + 1 = o + (k * 4 + 1) by omega, show o + k * 4 + 2 = o + (k * 4 + 2) by omega, show o + k * 4 + 3 = o + (k * 4 + 3) by omega]
  exact h

set_option maxHeartbeats 2000000 in
theorem rb_swap {w : World} {g o : Nat} {A Z : List Value} {ps : List Plc} (H : RBk w g o A Z ps) (m : Nat) (hm : m < 4) (y : Rt) (hy : ps[m]? = some (true, y)) (p : Pf) (v : Int) :
    Calls Tryz.prog 46 #[.pointer (some ⟨g, o, none⟩), .int .i64 (m : Int), .agg #[.int .u64 (p.1.1 : Int), .int .u64 (p.1.2 : Int), .int .i64 p.2], .int .i64 v] w fun e w' =>
      e = .returned (.tuple #[.agg #[.int .u64 (y.1.1.1 : Int), .int .u64 (y.1.1.2 : Int), .int .i64 y.1.2], .int .i64 y.2, .bool true]) ∧ RBk w' g o A Z (ps.set m (true, p, v)) ∧ Chg (· = g) w w' := by
  have hgl := H.top.lt
  have HH := hid H
  have HL := hid H.len
  have hm1 : (m : Int) < 4 := by omega
  have hm2 : (m : Int) ≤ 3 := by omega
  have hm0 : (0 : Int) ≤ (m : Int) := by omega
  have y0 := H.on hm hy
  obtain ⟨y1, y2, y3, y4⟩ := H.r hm hy
  have f0 := H.top.frozen (o + m * 4)
  have f1 := H.top.frozen (o + m * 4 + 1)
  have f2 := H.top.frozen (o + m * 4 + 2)
  have f3 := H.top.frozen (o + m * 4 + 3)
  have hne : w.heap.size ≠ g := by omega
  have hne1 : w.heap.size + 1 ≠ g := by omega
  have hne2 : w.heap.size + 2 ≠ g := by omega
  have HS := hid fun (W : World) (h : RBk W g o A Z ps) => h.store4 hm y hy (p, v)
  obtain ⟨⟨a, b⟩, n⟩ := p
  obtain ⟨⟨⟨c, d⟩, l⟩, h⟩ := y
  simp only at y1 y2 y3 y4
  clear H
  have hb0 := (Below.refl w.heap.size w).alloc (Nat.le_refl _) (.cells #[.int .u64 (a : Int), .int .u64 (b : Int), .int .i64 n] 38)
  have hs0 : (w.alloc (.cells #[.int .u64 (a : Int), .int .u64 (b : Int), .int .i64 n] 38)).heap.size = w.heap.size + 1 := by simp
  have hb1 := hb0.alloc hb0.size (.cells #[.int .u64 0, .int .u64 0, .int .i64 0] 38)
  have hs1 : ((w.alloc (.cells #[.int .u64 (a : Int), .int .u64 (b : Int), .int .i64 n] 38)).alloc (.cells #[.int .u64 0, .int .u64 0, .int .i64 0] 38)).heap.size = w.heap.size + 1 + 1 := by simp
  have hb2 := hb1.alloc hb1.size (.cells #[.int .u64 (c : Int), .int .u64 (d : Int), .int .i64 l, .int .i64 h] 77)
  have HP := ((Blk.new_at w #[.int .u64 (a : Int), .int .u64 (b : Int), .int .i64 n] 38 w.heap.size rfl).alloc (.cells #[.int .u64 0, .int .u64 0, .int .i64 0] 38)).alloc (.cells #[.int .u64 (c : Int), .int .u64 (d : Int), .int .i64 l, .int .i64 h] 77)
  have HR := (Blk.new_at (w.alloc (.cells #[.int .u64 (a : Int), .int .u64 (b : Int), .int .i64 n] 38)) #[.int .u64 0, .int .u64 0, .int .i64 0] 38 (w.heap.size + 1) hs0.symm).alloc (.cells #[.int .u64 (c : Int), .int .u64 (d : Int), .int .i64 l, .int .i64 h] 77)
  have HX := Blk.new_at ((w.alloc (.cells #[.int .u64 (a : Int), .int .u64 (b : Int), .int .i64 n] 38)).alloc (.cells #[.int .u64 0, .int .u64 0, .int .i64 0] 38)) #[.int .u64 (c : Int), .int .u64 (d : Int), .int .i64 l, .int .i64 h] 77 (w.heap.size + 1 + 1) hs1.symm
  have HPp := hid HP
  have HRr := hid HR
  have HXx := hid HX
  have HB2 := hid hb2
  clear HP HR HX hb0 hb1 hb2 hs0 hs1
  go_enter Tryz.func46, Tryz.ntmps46
  go_wp2_with fail
  generalize ((w.alloc (.cells #[.int .u64 (a : Int), .int .u64 (b : Int), .int .i64 n] 38)).alloc (.cells #[.int .u64 0, .int .u64 0, .int .i64 0] 38)).alloc (.cells #[.int .u64 (c : Int), .int .u64 (d : Int), .int .i64 l, .int .i64 h] 77) = w3 at *
  have HH3 := HH.out.chg (Chg.of_below HB2.out (fun _ => False)) id
  have z0 := HPp.out.cellv (i := 0) rfl
  have z1 := HPp.out.cellv (i := 1) rfl
  have z2 := HPp.out.cellv (i := 2) rfl
  have x0 := HXx.out.cellv (i := 0) rfl
  have x1 := HXx.out.cellv (i := 1) rfl
  have x2 := HXx.out.cellv (i := 2) rfl
  have x3 := HXx.out.cellv (i := 3) rfl
  have f0 := HH3.top.frozen (o + m * 4)
  have f1 := HH3.top.frozen (o + m * 4 + 1)
  have f2 := HH3.top.frozen (o + m * 4 + 2)
  have f3 := HH3.top.frozen (o + m * 4 + 3)
  have k0 := HRr.out.frozen 0
  have k1 := HRr.out.frozen 1
  have k2 := HRr.out.frozen 2
  have HH4 := hid HH3
  obtain ⟨q1, q2, q3, q4⟩ := HH3.r hm (x := (true, ((c, d), l), h)) (by assumption)
  clear HH3
  have HS4 := hid (HS.out w3 HH4.out)
  go_region
  go_wp2_with fail
  refine gen_w (fun w5 hw5 => ?_)
  have HC5 := hid (show Chg (· = g) w w5 by rw [hw5]; exact (chgR4 HB2.out g o m _ _ _ _).drew)
  have HH5 := hid (show RBk w5 g o A Z (ps.set m (true, ((a, b), n), v)) by rw [hw5]; exact ⟨HS4.out.top.drew, HS4.out.len, HS4.out.pre⟩)
  have hc : Chg (· = g) w3 w5 := by rw [hw5]; exact (chgR4 (Below.refl w3.heap.size w3) g o m _ _ _ _).drew
  have hX5 := HXx.out.chg hc (by omega)
  have hR5 := HRr.out.chg hc (by omega)
  clear hw5 hc HS4 HS z0 z1 z2 x0 x1 x2 x3 f0 f1 f2 f3 k0 k1 k2 q1 q2 q3 q4
  have x0 := hX5.cellv (i := 0) rfl
  have x1 := hX5.cellv (i := 1) rfl
  have x2 := hX5.cellv (i := 2) rfl
  have x3 := hX5.cellv (i := 3) rfl
  have k0 := hR5.frozen 0
  have k1 := hR5.frozen 1
  have k2 := hR5.frozen 2
  have r0 := hR5.cellv (i := 0) rfl
  have r1 := hR5.cellv (i := 1) rfl
  have r2 := hR5.cellv (i := 2) rfl
  have HR5 := hid hR5
  clear hX5 hR5
  have hcr := chg_set (chg_set (Chg.store w5 (w.heap.size + 1) 0 (.int .u64 (c : Int))) 1 (.int .u64 (d : Int))) 2 (.int .i64 l)
  have HCR := hid hcr
  clear hcr
  go_region
  go_wp2_with fail
  refine bodyPost_ret (v := .tuple #[.agg #[.int .u64 (c : Int), .int .u64 (d : Int), .int .i64 l], .int .i64 h, .bool true]) (by simp [results, Tryz.results46, go_sem, r0, r1, r2]) rfl ⟨rfl, ?_, ?_⟩
  · exact HH5.out.chg HCR.out.drew (by omega)
  · exact HC5.out.trans HCR.out.drew (fun i hi e => by omega)

/-! ### All -/
def RARel (w : World) (ps : List Plc) (v i : Value) (wr : World) : Prop :=
  ∃ k : Nat, k ≤ 4 ∧ i = .int .i64 k ∧ Owns wr w.heap.size 77 4 v (entB (ps.take k)).length (rtsV (entB (ps.take k))) ∧ Below w.heap.size w wr
theorem entB_next {ps : List Plc} {k : Nat} {x : Plc} (hx : ps[k]? = some x) : entB (ps.take (k + 1)) = entB (ps.take k) ++ if x.1 = true then [x.2] else [] := by
  unfold entB
  rw [allP_next ps k x hx, List.map_append]
  congr 1
  split <;> rfl
set_option maxHeartbeats 2000000 in
theorem rb_all {w : World} {g o : Nat} {A Z : List Value} {ps : List Plc} (H : RBk w g o A Z ps) :
    Calls Tryz.prog 34 #[.pointer (some ⟨g, o, none⟩)] w (RetRts w (entB ps)) := by
  have HH := hid H
  have HL := hid H.len
  clear H
  go_enter Tryz.func34, Tryz.ntmps34
  go_wp2_with fail
  go_loopw [3, 4] (fun v i wr => RARel w ps v i wr) (fun _ i _ => 4 - (intOf i).toNat)
  case atStart => exact ⟨0, by omega, rfl, Owns.nil _ _ _ _, Below.refl _ _⟩
  case round =>
    obtain ⟨k, hk, rfl, hO, hb⟩ := hrel
    have HHr := HH.out.below hb
    have HB := hid hb
    by_cases hk4 : k < 4
    · obtain ⟨x, hx⟩ : ∃ x, ps[k]? = some x := ⟨_, List.getElem?_eq_getElem (by rw [HL.out]; exact hk4)⟩
      have y0 := HHr.on hk4 hx
      obtain ⟨y1, y2, y3, y4⟩ := HHr.r hk4 hx
      have HN := hid (entB_next hx)
      have hlen : (entB (ps.take k)).length ≤ 4 := by
        unfold entB; rw [List.length_map]
        exact Nat.le_trans (List.length_filter_le _ _) (Nat.le_trans (List.length_take_le _ _) hk)
      have hO2 := hO
      obtain ⟨A2, cap2, rfl, hnc, hcm, _⟩ := Owns.form hO
      have HO := hid hO2
      obtain ⟨L, hL⟩ : ∃ L, entB (ps.take k) = L := ⟨_, rfl⟩
      rw [hL] at HO HN hlen hnc ⊢
      obtain ⟨n, hn⟩ : ∃ n, L.length = n := ⟨_, rfl⟩
      have HLN := hid hn
      rw [hn] at HO hlen hnc ⊢
      have hk0 : (0 : Int) ≤ (k : Int) := by omega
      have hk1 : (k : Int) < 4 := by omega
      have hs0 := hb.size
      clear hx HHr hO hO2 hb hL hn
      obtain ⟨x0, ⟨⟨x1, x2⟩, x3⟩, x4⟩ := x
      simp only at y0 y1 y2 y3 y4 HN
      cases x0
      · go_wp2_with fail
        go_roundw
        case rel => exact ⟨k + 1, by omega, by go_num, by rw [HN.out]; simp only [Bool.false_eq_true, if_false, List.append_nil]; rw [HLN.out]; exact HO.out, HB.out⟩
        case measure => simp [intOf]; omega
      · have hO2 := HO.out
        go_wp2_with (at_builtin; refine wpList_push rfl _ _ 47 rfl 77 (.agg #[.int .u64 0, .int .u64 0, .int .i64 0, .int .i64 0]) 4 32 Tryz.underlying47 rt_info rfl (by decide) w.heap.size _ n _ rfl hO2 [.int .u64 (x1 : Int), .int .u64 (x2 : Int), .int .i64 x3, .int .i64 x4] rfl rfl ?c1 ?c2 ?c3 hs0 ?_)
        case c1 => first | exact ⟨rfl, rfl, rfl, rfl⟩ | (intro u hu; simp at hu; rcases hu with rfl | rfl | rfl | rfl <;> rfl)
        case c2 => unfold maxLen; omega
        case c3 => omega
        intro v' w4 hO4 hC4
        have HB4 := hid (HB.out.trans (hC4.below hs0 (fun g hg k => by have := (HO.out.base_le g k).1; omega)))
        have HO4 := hid hO4
        clear hO2 hC4 hO4
        go_wp2_with fail
        go_roundw
        case rel => exact ⟨k + 1, by omega, by go_num, by rw [HN.out]; simp only [if_true, List.length_append, List.length_singleton, rtsV_snoc]; rw [HLN.out]; exact HO4.out, HB4.out⟩
        case measure => simp [intOf]; omega
    · have hk4' : k = 4 := by omega
      subst hk4'
      have e : ps.take 4 = ps := List.take_of_length_le (by rw [HL.out]; exact Nat.le_refl _)
      rw [e] at hO
      have HO := hid hO
      clear hO hb HHr
      go_wp2_with fail
      go_ret
      exact ⟨_, rfl, HO.out, HB.out⟩

end Go.Proofs.YtpjjijhojcfmnaaGreat
