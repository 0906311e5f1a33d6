/-
  Contracts of the reference's functions on lists of routes: Find, Without, Longest. No condition but that words are words.
-/
import Derived.Test.YtjhgmjfjlndomaaSame
import Derived.Deep.RegionHeld3
namespace Go.Proofs.Ytjhgmjfjlndomaa
open Go.RowKit
set_option linter.unusedVariables false
set_option linter.unusedSimpArgs false
set_option maxRecDepth 100000
attribute [local go_sem high] eq_ad eq_pf eq_rt

theorem rt_row : (Try.prog.info? 51).map (fun i => (i.zero, i.size, i.bytes)) = some (some (.agg #[.int .u64 0, .int .u64 0, .int .i64 0, .int .i64 0]), 4, 32) := by kernel_rfl
theorem cells_rt (r : Rt) : ∀ u ∈ rtEn r, u.oneCell' = true := by intro u hu; simp [rtEn] at hu; rcases hu with rfl | rfl | rfl | rfl <;> rfl
def rtsV (l : List Rt) : List Value := l.flatMap rtEn
theorem rtsV_snoc (l : List Rt) (r : Rt) : rtsV (l ++ [r]) = rtsV l ++ [.int .u64 (r.1.1.1 : Int), .int .u64 (r.1.1.2 : Int), .int .i64 r.1.2, .int .i64 r.2] := by simp [rtsV, rtEn]
/-- A result that is a slice of the call's own, read as a list of routes. -/
def OwnRts (w : World) (l : List Rt) (w' : World) (v : Value) : Prop := Owns w' w.heap.size 51 4 v l.length (rtsV l)
def RetRts (w : World) (l : List Rt) (e : Ending) (w' : World) : Prop := ∃ v, e = .returned v ∧ OwnRts w l w' v ∧ Below w.heap.size w w'
theorem OwnRts.rd {w w' : World} {l : List Rt} {v : Value} (h : OwnRts w l w' v) : Rd rtEn 4 w' v l := Rd.of_owns h rtEn_length
theorem OwnRts.form {w w' : World} {l : List Rt} {v : Value} (h : OwnRts w l w' v) : ∃ A cap, v = .slice A l.length cap := let ⟨A, c, h1, _⟩ := Owns.form h; ⟨A, c, h1⟩

/-- Where a prefix is; below 0: nowhere. -/
def findI (l : List Rt) (p : Pf) : Int := match l.findIdx? (fun r => decide (r.1 = p)) with | some k => (k : Int) | none => -1
theorem findI_none {l : List Rt} {p : Pf} (h : ∀ (j : Nat) (r : Rt), l[j]? = some r → r.1 ≠ p) : findI l p = -1 := by
  unfold findI
  rw [List.findIdx?_eq_none_iff.2]
  intro r hr
  obtain ⟨j, hj⟩ := List.getElem?_of_mem hr
  simpa using h j r hj
theorem findI_some {l : List Rt} {p : Pf} {k : Nat} {r : Rt} (hk : l[k]? = some r) (hr : r.1 = p) (h : ∀ (j : Nat) (r : Rt), j < k → l[j]? = some r → r.1 ≠ p) : findI l p = (k : Int) := by
  unfold findI
  have : l.findIdx? (fun r => decide (r.1 = p)) = some k := by
    rw [List.findIdx?_eq_some_iff_getElem]
    obtain ⟨hl, he⟩ := List.getElem?_eq_some_iff.1 hk
    refine ⟨hl, by rw [he]; simpa using hr, fun j hj => ?_⟩
    have := h j _ hj (List.getElem?_eq_getElem (by omega))
    simpa using this
  rw [this]

def FindRel (w : World) (p : Pf) (l : List Rt) (i : Value) (wr : World) : Prop :=
  ∃ k : Nat, k ≤ l.length ∧ i = .int .i64 k ∧ (∀ (j : Nat) (r : Rt), j < k → l[j]? = some r → r.1 ≠ p) ∧ Blk wr w.heap.size 26 [.int .u64 (p.1.1 : Int), .int .u64 (p.1.2 : Int), .int .i64 p.2] ∧ Below w.heap.size w wr

theorem ref_find (w : World) (v : Value) (l : List Rt) (hR : Rd rtEn 4 w v l) (p : Pf) :
    Calls Try.prog 31 #[v, .agg #[.int .u64 (p.1.1 : Int), .int .u64 (p.1.2 : Int), .int .i64 p.2]] w fun e w' => e = .returned (.int .i64 (findI l p)) ∧ Below w.heap.size w w' := by
  have hg := guard_pf
  have HR := hid fun k x (h : l[k]? = some x) => hR.get rtEn_length (by decide) h
  obtain ⟨A, cap, rfl, n1, m1⟩ := hR.form
  unfold maxLen at m1
  clear hR
  obtain ⟨⟨a, b⟩, n⟩ := p
  go_enter Try.func31, Try.ntmps31
  go_wp2_with fail
  go_loopw [5] (fun i wr => FindRel w ((a, b), n) l i wr) (fun i _ => l.length - (intOf i).toNat)
  case atStart => exact ⟨0, Nat.zero_le _, rfl, fun j r h => by omega, Blk.new_at w #[.int .u64 (a : Int), .int .u64 (b : Int), .int .i64 n] 26 _ rfl, (Below.refl _ _).alloc (Nat.le_refl _) _⟩
  case round =>
    obtain ⟨k, hk, rfl, hno, hX, hB⟩ := hrel
    have HNO := hid hno
    have HX := hid hX
    have HB := hid hB
    have x0 := hX.cellv (i := 0) rfl
    have x1 := hX.cellv (i := 1) rfl
    have x2 := hX.cellv (i := 2) rfl
    by_cases hlt : k < l.length
    · have g1 : l[k]? = some l[k] := List.getElem?_eq_getElem hlt
      generalize l[k] = x at g1
      obtain ⟨ba, oa, ca, ha, _, _, la, sa⟩ := HR.out k x g1
      injection ha with ha hx1 hc1
      subst ha hc1
      clear hx1
      have u0 : wr.cell? ⟨ba, oa + k * 4, none⟩ = some (.int .u64 (x.1.1.1 : Int)) := (hB.cell (p := ⟨ba, oa + k * 4, none⟩) la).trans (sa 0 _ rfl)
      have u1 : wr.cell? ⟨ba, oa + k * 4 + 1, none⟩ = some (.int .u64 (x.1.1.2 : Int)) := (hB.cell (p := ⟨ba, oa + k * 4 + 1, none⟩) la).trans (sa 1 _ rfl)
      have u2 : wr.cell? ⟨ba, oa + k * 4 + 2, none⟩ = some (.int .i64 x.1.2) := (hB.cell (p := ⟨ba, oa + k * 4 + 2, none⟩) la).trans (sa 2 _ rfl)
      have hbe := pf_beq x.1 ((a, b), n)
      have G1 := hid g1
      clear g1 sa hno hX hB
      by_cases he : x.1 = ((a, b), n)
      · rw [decide_eq_true he] at hbe
        have HE := hid he
        clear he
        go_wp2_with fail
        go_quiet (fail)
        go_wp2_with fail
        go_ret
        exact ⟨ret_int (findI_some G1.out HE.out HNO.out).symm, HB.out.drewN _⟩
      · rw [decide_eq_false he] at hbe
        have HE := hid he
        clear he
        go_wp2_with fail
        go_quiet (fail)
        go_wp2_with fail
        go_roundw
        case rel =>
          refine ⟨k + 1, by omega, by go_num, fun j r hj hr => ?_, HX.out.drewN _, HB.out.drewN _⟩
          by_cases e : j = k
          · subst e
            have h1 := G1.out
            rw [hr] at h1
            injection h1 with h1
            subst h1
            exact HE.out
          · exact HNO.out j r (by omega) hr
        case measure => simp [intOf]; omega
    · have hno' := hid (fun (j : Nat) (r : Rt) (h : l[j]? = some r) => hno j r (by have := (List.getElem?_eq_some_iff.1 h).1; omega) h)
      clear hno hX hB
      go_wp2_with fail
      go_ret
      exact ⟨ret_int (findI_none hno'.out).symm, HB.out⟩

def withoutL (l : List Rt) (p : Pf) : List Rt := l.filter fun r => decide (r.1 ≠ p)
def WithRel (w : World) (p : Pf) (l : List Rt) (v i : Value) (wr : World) : Prop :=
  ∃ k : Nat, k ≤ l.length ∧ i = .int .i64 k ∧ Owns wr (w.heap.size + 1) 51 4 v (withoutL (l.take k) p).length (rtsV (withoutL (l.take k) p)) ∧
    Blk wr w.heap.size 26 [.int .u64 (p.1.1 : Int), .int .u64 (p.1.2 : Int), .int .i64 p.2] ∧ Below w.heap.size w wr
theorem without_snoc {l : List Rt} {k : Nat} {x : Rt} (h : l[k]? = some x) (p : Pf) : withoutL (l.take (k + 1)) p = withoutL (l.take k) p ++ if x.1 = p then [] else [x] := by
  obtain ⟨hk, rfl⟩ := List.getElem?_eq_some_iff.1 h
  unfold withoutL
  rw [List.take_succ_eq_append_getElem hk, List.filter_append]
  by_cases e : l[k].1 = p <;> simp [e]
theorem without_le (l : List Rt) (p : Pf) : (withoutL l p).length ≤ l.length := List.length_filter_le _ _

theorem ref_without (w : World) (v : Value) (l : List Rt) (hR : Rd rtEn 4 w v l) (hlen : l.length ≤ 100000) (p : Pf) :
    Calls Try.prog 32 #[v, .agg #[.int .u64 (p.1.1 : Int), .int .u64 (p.1.2 : Int), .int .i64 p.2]] w (RetRts w (withoutL l p)) := by
  have hg := guard_pf
  have HR := hid fun k x (h : l[k]? = some x) => hR.get rtEn_length (by decide) h
  obtain ⟨A, cap, rfl, n1, m1⟩ := hR.form
  unfold maxLen at m1
  clear hR
  obtain ⟨⟨a, b⟩, n⟩ := p
  go_enter Try.func32, Try.ntmps32
  go_wp2_with fail
  go_loopw [5, 6] (fun v i wr => WithRel w ((a, b), n) l v i wr) (fun _ i _ => l.length - (intOf i).toNat)
  case atStart => exact ⟨0, Nat.zero_le _, rfl, Owns.nil _ _ _ _, Blk.new_at w #[.int .u64 (a : Int), .int .u64 (b : Int), .int .i64 n] 26 _ rfl, (Below.refl _ _).alloc (Nat.le_refl _) _⟩
  case round =>
    obtain ⟨k, hk, rfl, hO, hX, hB⟩ := hrel
    by_cases hlt : k < l.length
    · have g1 : l[k]? = some l[k] := List.getElem?_eq_getElem hlt
      generalize l[k] = x at g1
      have hsn := without_snoc g1 ((a, b), n)
      obtain ⟨ba, oa, ca, ha, _, _, la, sa⟩ := HR.out k x g1
      injection ha with ha hx1 hc1
      subst ha hc1
      clear hx1
      have x0 := hX.cellv (i := 0) rfl
      have x1 := hX.cellv (i := 1) rfl
      have x2 := hX.cellv (i := 2) rfl
      have hle1 := without_le (l.take k) ((a, b), n)
      have hle2 : (l.take k).length ≤ k := List.length_take_le _ _
      generalize hcur : withoutL (l.take k) ((a, b), n) = cur at hO hsn hle1
      obtain ⟨A2, cap2, rfl, hnc, hcm, hform⟩ := hO.form
      have u0 : wr.cell? ⟨ba, oa + k * 4, none⟩ = some (.int .u64 (x.1.1.1 : Int)) := (hB.cell (p := ⟨ba, oa + k * 4, none⟩) la).trans (sa 0 _ rfl)
      have u1 : wr.cell? ⟨ba, oa + k * 4 + 1, none⟩ = some (.int .u64 (x.1.1.2 : Int)) := (hB.cell (p := ⟨ba, oa + k * 4 + 1, none⟩) la).trans (sa 1 _ rfl)
      have u2 : wr.cell? ⟨ba, oa + k * 4 + 2, none⟩ = some (.int .i64 x.1.2) := (hB.cell (p := ⟨ba, oa + k * 4 + 2, none⟩) la).trans (sa 2 _ rfl)
      have u3 : wr.cell? ⟨ba, oa + k * 4 + 3, none⟩ = some (.int .i64 x.2) := (hB.cell (p := ⟨ba, oa + k * 4 + 3, none⟩) la).trans (sa 3 _ rfl)
      have hbe := pf_beq x.1 ((a, b), n)
      have HO := hid hO
      have HX := hid hX
      have HB := hid hB
      have HXL := hX.lt
      have HCUR := hid hcur
      clear g1 sa hO hX hB hform hcur
      by_cases he : x.1 = ((a, b), n)
      · rw [decide_eq_true he] at hbe
        rw [if_pos he, List.append_nil] at hsn
        have HSN := hid hsn
        clear he hsn
        go_wp2_with fail
        go_quiet (fail)
        go_wp2_with fail
        go_roundw
        case rel => exact ⟨k + 1, by omega, by go_num, by rw [HSN.out]; exact HO.out.below ((Below.refl _ _).drewN _), HX.out.drewN _, HB.out.drewN _⟩
        case measure => simp [intOf]; omega
      · rw [decide_eq_false he] at hbe
        rw [if_neg he] at hsn
        have HSN := hid hsn
        obtain ⟨⟨⟨xa, xb⟩, xn⟩, xh⟩ := x
        clear he hsn
        go_wp2_with fail
        go_quiet (fail)
        go_wp2_with (at_builtin; refine wpList_pushm rfl _ _ 40 rfl 51 _ 4 32 Try.underlying40 rt_row rfl (by decide) (w.heap.size + 1) _ cur.length _ rfl (HO.out.below ((Below.refl _ _).drewN _)) _ rfl 1 [.int .u64 _, .int .u64 _, .int .i64 _, .int .i64 _] rfl rfl ?c1 ?c2 ?c3 ?c4 ?_)
        case c1 => intro u hu; simp at hu; rcases hu with rfl | rfl | rfl | rfl <;> rfl
        case c2 => unfold maxLen; omega
        case c3 => omega
        case c4 => simp; omega
        intro v' w4 hO4 hC4
        have hC4' := hid ((((Chg.refl (fun g => Value.ownBlock (.slice A2 cur.length cap2) = some g) wr).drewN _).trans' hC4))
        have hne := hid (fun h => by have := (HO.out.base_le w.heap.size h).1; omega : ¬ Value.ownBlock (.slice A2 cur.length cap2) = some w.heap.size)
        have HX4 := hid (HX.out.chg hC4'.out hne.out)
        have HB4 := hid (HB.out.trans (hC4'.out.below HB.out.size (fun g hg k => by have := (HO.out.base_le g k).1; omega)))
        have HO4 := hid hO4
        clear hO4 hC4 hC4' hne HO HX HB x0 x1 x2 u0 u1 u2 u3
        go_wp2_with fail
        go_roundw
        case rel => exact ⟨k + 1, by omega, by go_num, by rw [HSN.out, rtsV_snoc, List.length_append]; exact HO4.out, HX4.out, HB4.out⟩
        case measure => simp [intOf]; omega
    · have HO := hid hO
      have HB := hid hB
      have hkk := hid (show l.take k = l from List.take_of_length_le (by omega))
      obtain ⟨A2, cap2, rfl, _, _, _⟩ := hO.form
      clear hO hX hB
      go_wp2_with fail
      go_ret
      refine ⟨_, rfl, ?_, HB.out⟩
      have h := HO.out.lower (show w.heap.size ≤ w.heap.size + 1 by omega)
      rw [hkk.out] at h ⊢
      exact h

/-- Is it of the lengths, and has the address? -/
def inR (p : Pf) (a : Ad) (low high : Int) : Prop := low < p.2 ∧ p.2 ≤ high ∧ p.has a
instance (p : Pf) (a : Ad) (low high : Int) : Decidable (inR p a low high) := by unfold inR; infer_instance
def lenAt (l : List Rt) (b : Nat) : Int := match l[b]? with | some r => r.1.2 | none => 0
/-- Of the first k the longest: the first of those. -/
def lonK (l : List Rt) (a : Ad) (low high : Int) : Nat → Option Nat
  | 0 => none
  | k + 1 => match l[k]? with
    | none => lonK l a low high k
    | some r => if inR r.1 a low high then (match lonK l a low high k with | none => some k | some b => if lenAt l b < r.1.2 then some k else some b) else lonK l a low high k
def obI (o : Option Nat) : Int := match o with | some b => (b : Int) | none => -1
def longI (l : List Rt) (a : Ad) (low high : Int) : Int := obI (lonK l a low high l.length)
theorem lonK_lt {l : List Rt} {a : Ad} {low high : Int} : ∀ {k b : Nat}, lonK l a low high k = some b → b < k ∧ b < l.length
  | 0, b, h => by simp [lonK] at h
  | k + 1, b, h => by
    unfold lonK at h
    cases hk : l[k]? with
    | none => rw [hk] at h; have := lonK_lt h; exact ⟨by omega, this.2⟩
    | some r =>
      have hkl := (List.getElem?_eq_some_iff.1 hk).1
      rw [hk] at h
      simp only at h
      by_cases hin : inR r.1 a low high
      · rw [if_pos hin] at h
        cases hp : lonK l a low high k with
        | none => rw [hp] at h; injection h with h; subst h; exact ⟨by omega, hkl⟩
        | some b' =>
          rw [hp] at h
          have := lonK_lt hp
          simp only at h
          split at h
          · injection h with h; subst h; exact ⟨by omega, hkl⟩
          · injection h with h; subst h; exact ⟨by omega, this.2⟩
      · rw [if_neg hin] at h; have := lonK_lt h; exact ⟨by omega, this.2⟩

def LonRel (w : World) (a : Ad) (l : List Rt) (low high : Int) (be i : Value) (wr : World) : Prop :=
  ∃ k : Nat, k ≤ l.length ∧ i = .int .i64 k ∧ be = .int .i64 (obI (lonK l a low high k)) ∧ Blk wr w.heap.size 24 [.int .u64 (a.1 : Int), .int .u64 (a.2 : Int)] ∧ Below w.heap.size w wr

set_option maxHeartbeats 1000000 in
theorem ref_longest (w : World) (v : Value) (l : List Rt) (hR : Rd rtEn 4 w v l) (hok : ∀ r ∈ l, r.1.1.ok) (a : Ad) (ha : a.ok) (low high : Int) :
    Calls Try.prog 55 #[v, .agg #[.int .u64 (a.1 : Int), .int .u64 (a.2 : Int)], .int .i64 low, .int .i64 high] w fun e w' => e = .returned (.int .i64 (longI l a low high)) ∧ Below w.heap.size w w' := by
  have HR := hid fun k x (h : l[k]? = some x) => hR.get rtEn_length (by decide) h
  have HOK := hid fun (k : Nat) (x : Rt) (h : l[k]? = some x) => hok x (List.mem_of_getElem? h)
  have HA := hid ha
  obtain ⟨A, cap, rfl, n1, m1⟩ := hR.form
  unfold maxLen at m1
  clear hR hok ha
  obtain ⟨x, y⟩ := a
  go_enter Try.func55, Try.ntmps55
  go_wp2_with fail
  go_loopw [9, 10] (fun be i wr => LonRel w (x, y) l low high be i wr) (fun _ i _ => l.length - (intOf i).toNat)
  case atStart => exact ⟨0, Nat.zero_le _, rfl, rfl, Blk.new_at w #[.int .u64 (x : Int), .int .u64 (y : Int)] 24 _ rfl, (Below.refl _ _).alloc (Nat.le_refl _) _⟩
  case round =>
    obtain ⟨k, hk, rfl, rfl, hX, hB⟩ := hrel
    by_cases hlt : k < l.length
    · have g1 : l[k]? = some l[k] := List.getElem?_eq_getElem hlt
      generalize l[k] = r at g1
      have hst : lonK l (x, y) low high (k + 1) = if inR r.1 (x, y) low high then (match lonK l (x, y) low high k with | none => some k | some b => if lenAt l b < r.1.2 then some k else some b) else lonK l (x, y) low high k := by
        rw [lonK, g1]
      obtain ⟨ba, oa, ca, ha, _, _, la, sa⟩ := HR.out k r g1
      injection ha with ha hx1 hc1
      subst ha hc1
      clear hx1
      have u0 : wr.cell? ⟨ba, oa + k * 4, none⟩ = some (.int .u64 (r.1.1.1 : Int)) := (hB.cell (p := ⟨ba, oa + k * 4, none⟩) la).trans (sa 0 _ rfl)
      have u1 : wr.cell? ⟨ba, oa + k * 4 + 1, none⟩ = some (.int .u64 (r.1.1.2 : Int)) := (hB.cell (p := ⟨ba, oa + k * 4 + 1, none⟩) la).trans (sa 1 _ rfl)
      have u2 : wr.cell? ⟨ba, oa + k * 4 + 2, none⟩ = some (.int .i64 r.1.2) := (hB.cell (p := ⟨ba, oa + k * 4 + 2, none⟩) la).trans (sa 2 _ rfl)
      have lar : ba < wr.heap.size := Nat.lt_of_lt_of_le la hB.size
      have hro := hid (HOK.out k r g1)
      obtain ⟨hb, hhb⟩ : ∃ hb : Bool, hb = decide (Pf.has (r.1.1, r.1.2) (x, y)) := ⟨_, rfl⟩
      have ch := hid fun w => ref_has r.1.1 (x, y) hro.out HA.out r.1.2 hb hhb w
      have hin : inR r.1 (x, y) low high ↔ low < r.1.2 ∧ r.1.2 ≤ high ∧ hb = true := by unfold inR; rw [hhb, decide_eq_true_iff]
      have HX := hid (hX.alloc (.cells #[.int .u64 (r.1.1.1 : Int), .int .u64 (r.1.1.2 : Int), .int .i64 r.1.2] 26))
      have BP := hid (Blk.new_at wr #[.int .u64 (r.1.1.1 : Int), .int .u64 (r.1.1.2 : Int), .int .i64 r.1.2] 26 wr.heap.size rfl)
      have HB := hid (hB.alloc hB.size (.cells #[.int .u64 (r.1.1.1 : Int), .int .u64 (r.1.1.2 : Int), .int .i64 r.1.2] 26))
      have hXL := hX.lt
      have a0 := HX.out.cellv (i := 0) rfl
      have a1 := HX.out.cellv (i := 1) rfl
      have p0 := BP.out.cellv (i := 0) rfl
      have p1 := BP.out.cellv (i := 1) rfl
      have p2 := BP.out.cellv (i := 2) rfl
      obtain ⟨⟨⟨rx, ry⟩, ri⟩, rh⟩ := r
      have hprev : lonK l (x, y) low high k = none ∨ ∃ b rb, lonK l (x, y) low high k = some b ∧ b < k ∧ l[b]? = some rb ∧ lenAt l b = rb.1.2 := by
        cases hp : lonK l (x, y) low high k with
        | none => exact .inl rfl
        | some b =>
          have h1 := lonK_lt hp
          exact .inr ⟨b, l[b]'(h1.2), rfl, h1.1, List.getElem?_eq_getElem _, by unfold lenAt; rw [List.getElem?_eq_getElem h1.2]⟩
      have HBW := hid hB
      clear g1 sa hX hB hhb
      by_cases hno : ¬ (low < ri ∧ ri ≤ high)
      · have hSt := hid (show lonK l (x, y) low high (k + 1) = lonK l (x, y) low high k by rw [hst, if_neg (fun h => hno ⟨(hin.1 h).1, (hin.1 h).2.1⟩)])
        generalize lonK l (x, y) low high k = pv at hSt
        clear hst hprev hin ch
        by_cases h1 : low < ri
        · have h2 : decide (ri ≤ high) = false := decide_eq_false (fun h => hno ⟨h1, h⟩)
          have h1' : decide (low < ri) = true := decide_eq_true h1
          clear hno
          go_wp2_with fail
          go_quiet (fail)
          go_wp2_with fail
          go_roundw
          case rel => exact ⟨k + 1, by omega, by go_num, by rw [hSt.out], HX.out.drewN _, HB.out.drewN _⟩
          case measure => simp [intOf]; omega
        · have h1' : decide (low < ri) = false := decide_eq_false h1
          clear hno
          go_wp2_with fail
          go_quiet (fail)
          go_wp2_with fail
          go_roundw
          case rel => exact ⟨k + 1, by omega, by go_num, by rw [hSt.out], HX.out.drewN _, HB.out.drewN _⟩
          case measure => simp [intOf]; omega
      · have hyes : low < ri ∧ ri ≤ high := Classical.not_not.1 hno
        have h1' : decide (low < ri) = true := decide_eq_true hyes.1
        have h2' : decide (ri ≤ high) = true := decide_eq_true hyes.2
        clear hno
        cases hb
        · have hSt := hid (show lonK l (x, y) low high (k + 1) = lonK l (x, y) low high k by rw [hst, if_neg (fun h => by have := (hin.1 h).2.2; cases this)])
          generalize lonK l (x, y) low high k = pv at hSt
          clear hst hprev hin hyes
          go_wp2_with fail
          refine wp_region_later (fun w' => w'.cell? ⟨w.heap.size, 0, none⟩ = some (.int .u64 (x : Int)) ∧ w'.cell? ⟨w.heap.size, 1, none⟩ = some (.int .u64 (y : Int)) ∧ w'.cell? ⟨wr.heap.size, 0, none⟩ = some (.int .u64 (rx : Int)) ∧ w'.cell? ⟨wr.heap.size, 1, none⟩ = some (.int .u64 (ry : Int)) ∧ w'.cell? ⟨wr.heap.size, 2, none⟩ = some (.int .i64 ri))
            (fun x => ⟨x.cell a0, x.cell a1, x.cell p0, x.cell p1, x.cell p2⟩) (by kernel_rfl) (by kernel_rfl) (fun HS => ?_)
          repeat (go_big_quiet_step (with_reducible exact Later.calls _ (ch.out _)))
          refine wpQuiet_nil ?_
          rintro w4 ⟨⟨_, hb4⟩, rfl⟩
          have HX4 := hid (HX.out.below' hb4)
          have HB4 := hid (held_next HB.out hb4)
          clear HS hb4 a0 a1 p0 p1 p2 u0 u1 u2 HX HB
          go_wp2_with fail
          go_roundw
          case rel => exact ⟨k + 1, by omega, by go_num, by (rw [hSt.out]; try rfl), HX4.out, HB4.out⟩
          case measure => simp [intOf]; omega
        · have hinn : inR ((rx, ry), ri) (x, y) low high := hin.2 ⟨hyes.1, hyes.2, rfl⟩
          rw [if_pos hinn] at hst
          clear hinn hin hyes
          rcases hprev with hp | ⟨b, rb, hp, hbk, hgb, hlb⟩
          · have hSt := hid (show lonK l (x, y) low high (k + 1) = some k by rw [hst, hp])
            rw [hp]
            clear hst hp
            unfold obI
            go_wp2_with fail
            refine wp_region_later (fun w' => w'.cell? ⟨w.heap.size, 0, none⟩ = some (.int .u64 (x : Int)) ∧ w'.cell? ⟨w.heap.size, 1, none⟩ = some (.int .u64 (y : Int)) ∧ w'.cell? ⟨wr.heap.size, 0, none⟩ = some (.int .u64 (rx : Int)) ∧ w'.cell? ⟨wr.heap.size, 1, none⟩ = some (.int .u64 (ry : Int)) ∧ w'.cell? ⟨wr.heap.size, 2, none⟩ = some (.int .i64 ri))
              (fun x => ⟨x.cell a0, x.cell a1, x.cell p0, x.cell p1, x.cell p2⟩) (by kernel_rfl) (by kernel_rfl) (fun HS => ?_)
            repeat (go_big_quiet_step (with_reducible exact Later.calls _ (ch.out _)))
            refine wpQuiet_nil ?_
            rintro w4 ⟨⟨_, hb4⟩, rfl⟩
            have HX4 := hid (HX.out.below' hb4)
            have HB4 := hid (held_next HB.out hb4)
            clear HS hb4 a0 a1 p0 p1 p2 u0 u1 u2 HX HB
            go_wp2_with fail
            go_roundw
            case rel => exact ⟨k + 1, by omega, by go_num, by (rw [hSt.out]; try rfl), HX4.out, HB4.out⟩
            case measure => simp [intOf]; omega
          · obtain ⟨ba', oa', ca', ha', _, _, la', sa'⟩ := HR.out b rb hgb
            injection ha' with ha' hx1' hc1'
            injection ha' with ha'
            injection ha' with ha1' ha2'
            subst ha1' ha2' hc1'
            clear hx1'
            have ub : wr.cell? ⟨ba, oa + b * 4 + 2, none⟩ = some (.int .i64 rb.1.2) := (HBW.out.cell (p := ⟨ba, oa + b * 4 + 2, none⟩) la).trans (sa' 2 _ rfl)
            have ub : (wr.alloc (.cells #[.int .u64 (rx : Int), .int .u64 (ry : Int), .int .i64 ri] 26)).cell? ⟨ba, oa + b * 4 + 2, none⟩ = some (.int .i64 rb.1.2) := by
              rw [← ub]; exact (((Below.refl wr.heap.size wr).alloc (Nat.le_refl _) _).cell (p := ⟨ba, oa + b * 4 + 2, none⟩) lar)
            rw [hp] at hst
            simp only at hst
            rw [hlb] at hst
            rw [hp]
            clear hgb hlb hp sa' la'
            obtain ⟨⟨⟨bx, bY⟩, bl⟩, bh⟩ := rb
            have hb0 : (0 : Int) ≤ (b : Int) := by omega
            have hb1 : (b : Int) < (l.length : Int) := by omega
            have hneg : decide ((b : Int) < 0) = false := decide_eq_false (by omega)
            unfold obI
            by_cases hlen : bl < ri
            · have hSt := hid (show lonK l (x, y) low high (k + 1) = some k by rw [hst]; simp [hlen])
              have hlen' : decide (bl < ri) = true := decide_eq_true hlen
              clear hst hlen
              go_wp2_with fail
              refine wp_region_later (fun w' => w'.cell? ⟨w.heap.size, 0, none⟩ = some (.int .u64 (x : Int)) ∧ w'.cell? ⟨w.heap.size, 1, none⟩ = some (.int .u64 (y : Int)) ∧ w'.cell? ⟨wr.heap.size, 0, none⟩ = some (.int .u64 (rx : Int)) ∧ w'.cell? ⟨wr.heap.size, 1, none⟩ = some (.int .u64 (ry : Int)) ∧ w'.cell? ⟨wr.heap.size, 2, none⟩ = some (.int .i64 ri) ∧ w'.cell? ⟨ba, oa + b * 4 + 2, none⟩ = some (.int .i64 bl))
                (fun x => ⟨x.cell a0, x.cell a1, x.cell p0, x.cell p1, x.cell p2, x.cell ub⟩) (by kernel_rfl) (by kernel_rfl) (fun HS => ?_)
              repeat (go_big_quiet_step (with_reducible exact Later.calls _ (ch.out _)))
              refine wpQuiet_nil ?_
              rintro w4 ⟨⟨_, hb4⟩, rfl⟩
              have HX4 := hid (HX.out.below' hb4)
              have HB4 := hid (held_next HB.out hb4)
              clear HS hb4 a0 a1 p0 p1 p2 u0 u1 u2 ub HX HB
              go_wp2_with fail
              go_roundw
              case rel => exact ⟨k + 1, by omega, by go_num, by (rw [hSt.out]; try rfl), HX4.out, HB4.out⟩
              case measure => simp [intOf]; omega
            · have hSt := hid (show lonK l (x, y) low high (k + 1) = some b by rw [hst]; simp [hlen])
              have hlen' : decide (bl < ri) = false := decide_eq_false hlen
              clear hst hlen
              go_wp2_with fail
              refine wp_region_later (fun w' => w'.cell? ⟨w.heap.size, 0, none⟩ = some (.int .u64 (x : Int)) ∧ w'.cell? ⟨w.heap.size, 1, none⟩ = some (.int .u64 (y : Int)) ∧ w'.cell? ⟨wr.heap.size, 0, none⟩ = some (.int .u64 (rx : Int)) ∧ w'.cell? ⟨wr.heap.size, 1, none⟩ = some (.int .u64 (ry : Int)) ∧ w'.cell? ⟨wr.heap.size, 2, none⟩ = some (.int .i64 ri) ∧ w'.cell? ⟨ba, oa + b * 4 + 2, none⟩ = some (.int .i64 bl))
                (fun x => ⟨x.cell a0, x.cell a1, x.cell p0, x.cell p1, x.cell p2, x.cell ub⟩) (by kernel_rfl) (by kernel_rfl) (fun HS => ?_)
              repeat (go_big_quiet_step (with_reducible exact Later.calls _ (ch.out _)))
              refine wpQuiet_nil ?_
              rintro w4 ⟨⟨_, hb4⟩, rfl⟩
              have HX4 := hid (HX.out.below' hb4)
              have HB4 := hid (held_next HB.out hb4)
              clear HS hb4 a0 a1 p0 p1 p2 u0 u1 u2 ub HX HB
              go_wp2_with fail
              go_roundw
              case rel => exact ⟨k + 1, by omega, by go_num, by (rw [hSt.out]; try rfl), HX4.out, HB4.out⟩
              case measure => simp [intOf]; omega
    · have hkk := hid (show k = l.length by omega)
      have HB := hid hB
      clear hX hB
      go_wp2_with fail
      go_ret
      have e : longI l (x, y) low high = obI (lonK l (x, y) low high k) := by unfold longI; rw [← hkk.out]
      refine ⟨?_, HB.out⟩
      rw [e]; rfl

end Go.Proofs.Ytjhgmjfjlndomaa
