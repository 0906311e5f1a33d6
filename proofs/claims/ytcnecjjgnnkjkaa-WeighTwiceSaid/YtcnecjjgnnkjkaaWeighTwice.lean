/-
  The walk of the law WeighTwice: for all inputs it returns true and leaves memory alone. No condition.
-/
import Derived.Test.YtcnecjjgnnkjkaaWeighF2
namespace Go.Proofs.Ytcnecjjgnnkjkaa
open Go.RowKit
set_option linter.unusedVariables false
set_option linter.unusedSimpArgs false
set_option maxRecDepth 100000

set_option maxHeartbeats 4000000 in
theorem weighTwice_out (W : World) (A : Option Addr) (n cap : Nat) (total least N : Int) (hN : (n : Int) = N) (h : N < 1 ∨ 60 < N ∨ least < 1 ∨ 1000 < least ∨ 1073741824 < total ∨ total < least * N) :
    Calls Try.prog 6 #[.int .i64 total, .int .i64 least, .slice A n cap] W fun e W' => e = .returned (.bool true) ∧ Below W.heap.size W W' := by
  have cA := hid (law10_alive W)
  by_cases h1 : N < 1
  · clear h
    rw [← hN] at *
    clear hN
    go_enter Try.func6, Try.ntmps6
    go_wp2_with fail
    refine cA.out.mono ?_
    rintro _ w1 ⟨rfl, hb⟩
    have HB1 := hid hb
    clear hb
    go_wp2_with fail
    go_ret
    exact ⟨rfl, HB1.out⟩
  by_cases h2 : 60 < N
  · clear h
    rw [← hN] at *
    clear hN
    go_enter Try.func6, Try.ntmps6
    go_wp2_with fail
    refine cA.out.mono ?_
    rintro _ w1 ⟨rfl, hb⟩
    have HB1 := hid hb
    clear hb
    go_wp2_with fail
    go_ret
    exact ⟨rfl, HB1.out⟩
  by_cases h3 : least < 1
  · clear h
    rw [← hN] at *
    clear hN
    go_enter Try.func6, Try.ntmps6
    go_wp2_with fail
    refine cA.out.mono ?_
    rintro _ w1 ⟨rfl, hb⟩
    have HB1 := hid hb
    clear hb
    go_wp2_with fail
    go_ret
    exact ⟨rfl, HB1.out⟩
  by_cases h4 : 1000 < least
  · clear h
    rw [← hN] at *
    clear hN
    go_enter Try.func6, Try.ntmps6
    go_wp2_with fail
    refine cA.out.mono ?_
    rintro _ w1 ⟨rfl, hb⟩
    have HB1 := hid hb
    clear hb
    go_wp2_with fail
    go_ret
    exact ⟨rfl, HB1.out⟩
  by_cases h5 : 1073741824 < total
  · clear h
    rw [← hN] at *
    clear hN
    go_enter Try.func6, Try.ntmps6
    go_wp2_with fail
    refine cA.out.mono ?_
    rintro _ w1 ⟨rfl, hb⟩
    have HB1 := hid hb
    clear hb
    go_wp2_with fail
    go_ret
    exact ⟨rfl, HB1.out⟩
  have hw : IntKind.i64.wrap (least * N) = least * N := by
    rw [IntKind.wrap_i64]
    have a1 : 0 ≤ least * N := Int.mul_nonneg (by omega) (by omega)
    have a2 : least * N ≤ 1000 * 60 := Int.mul_le_mul (by omega) (by omega) (by omega) (by omega)
    omega
  have h6 : total < least * N := by
    generalize least * N = q at h
    omega
  clear h
  rw [← hN] at *
  clear hN
  go_enter Try.func6, Try.ntmps6
  go_wp2_with fail
  refine cA.out.mono ?_
  rintro _ w1 ⟨rfl, hb⟩
  have HB1 := hid hb
  clear hb
  go_wp2_with fail
  go_ret
  exact ⟨rfl, HB1.out⟩
theorem take_sum_le2 (l : List Nat) (j : Nat) : (l.take j).sum ≤ l.sum := by
  have h : l.sum = (l.take j).sum + (l.drop j).sum := by rw [← List.sum_append, List.take_append_drop]
  omega
theorem take_sum_snoc2 {l : List Nat} {j x : Nat} (h : l[j]? = some x) : (l.take (j + 1)).sum = (l.take j).sum + x := by
  obtain ⟨hj, e⟩ := List.getElem?_eq_some_iff.1 h
  rw [List.take_succ_eq_append_getElem hj, e, List.sum_append]
  simp
def nsOf (ws : List Int) : List Nat := ws.map fun x => (x % 16777216).toNat
theorem nsOf_lt {ws : List Int} {n : Nat} (h : n ∈ nsOf ws) : n < 16777216 := by
  obtain ⟨x, _, rfl⟩ := List.mem_map.1 h
  omega
theorem sum_lt {ns : List Nat} (h : ∀ n ∈ ns, n < 16777216) : ns.sum ≤ 16777216 * ns.length := by
  induction ns with
  | nil => simp
  | cons n ns ih =>
    have h1 := h n (by simp)
    have h2 := ih fun m hm => h m (by simp [hm])
    rw [List.sum_cons, List.length_cons]; omega
def flRow (l : List Nat) : List Value := (l.map wd).flatMap flEn
theorem flRow_snoc {l : List Nat} {j n : Nat} (h : l[j]? = some n) : flRow (l.take (j + 1)) = flRow (l.take j) ++ [.float .f64 (wd n)] := by
  obtain ⟨hj, e⟩ := List.getElem?_eq_some_iff.1 h
  unfold flRow
  rw [List.take_succ_eq_append_getElem hj, e, List.map_append, List.flatMap_append]; rfl
def TwRel (w1 : World) (ns : List Nat) (N : Nat) (va vb i : Value) (wr : World) : Prop :=
  ∃ j : Nat, j ≤ N ∧ i = .int .i64 j ∧ Owns wr w1.heap.size 23 1 va j (flRow (ns.take j)) ∧ Owns wr w1.heap.size 23 1 vb j (flRow ((ns.map (2 * ·)).take j)) ∧ (∀ z, va.ownBlock = some z → vb.ownBlock ≠ some z) ∧ Below w1.heap.size w1 wr
def TwSum (w1 : World) (ns : List Nat) (N : Nat) (all i : Value) (wr : World) : Prop := ∃ j : Nat, j ≤ N ∧ i = .int .i64 j ∧ all = .float .f64 (wd (ns.take j).sum) ∧ Below w1.heap.size w1 wr
def TwIx (w1 : World) (N : Nat) (i : Value) (wr : World) : Prop := ∃ j : Nat, 1 ≤ j ∧ j ≤ N ∧ i = .int .i64 j ∧ Below w1.heap.size w1 wr
set_option maxHeartbeats 4000000 in
theorem weighTwice_in (W : World) (v : Value) (ws : List Int) (R : Rd iEn 1 W v ws) (t l : Nat) (h1 : 1 ≤ ws.length) (h2 : ws.length ≤ 60) (h3 : 1 ≤ l) (h4 : l ≤ 1000) (h5 : l * ws.length ≤ t) (h6 : t ≤ 1073741824) :
    Calls Try.prog 6 #[.int .i64 (t : Int), .int .i64 (l : Int), v] W fun e W' => e = .returned (.bool true) ∧ Below W.heap.size W W' := by
  have cA := hid (law10_alive W)
  have cN := hid (fun n w => law10_num n w)
  obtain ⟨ns, hns⟩ : ∃ ns, nsOf ws = ns := ⟨_, rfl⟩
  have hnlt : ∀ n ∈ ns, n < 16777216 := by rw [← hns]; exact fun n h => nsOf_lt h
  have hnl : ns.length = ws.length := by rw [← hns]; simp [nsOf]
  have h5' : (l : Int) * (ws.length : Int) ≤ (t : Int) := by rw [← Int.natCast_mul]; omega
  have hnw : ∀ xs : List Nat, xs.length = ws.length → ¬ WrongP (t : Int) (l : Int) (xs.length : Int) := by
    intro xs hx
    have : 1 ≤ l * ws.length := Nat.mul_le_mul h3 h1
    rw [hx]
    unfold WrongP; omega
  have hwn : ∀ xs : List Nat, (∀ n ∈ xs, n ≤ 2 ^ 30) → (xs.map wd).map wN = xs := by
    intro xs hx
    rw [List.map_map]
    exact (List.map_congr_left (fun n hn => wN_wd (hx n hn))).trans (List.map_id _)
  have cSa := hid (fun w v (h : Rd flEn 1 w v (ns.map wd)) => weigh_all w v (ns.map wd) h (t : Int) (l : Int))
  have cSb := hid (fun w v (h : Rd flEn 1 w v ((ns.map (2 * ·)).map wd)) => weigh_all w v ((ns.map (2 * ·)).map wd) h (t : Int) (l : Int))
  unfold ShPost shOut shErr at cSa cSb
  simp only [if_neg (hnw (ns.map wd) (by simp [hnl])), Int.toNat_natCast, hwn ns (fun n hn => by have := hnlt n hn; omega)] at cSa
  simp only [if_neg (hnw ((ns.map (2 * ·)).map wd) (by simp [hnl])), Int.toNat_natCast, hwn (ns.map (2 * ·)) (fun n hn => by obtain ⟨m, hm, rfl⟩ := List.mem_map.1 hn; have := hnlt m hm; omega), share_twice] at cSb
  have hlen := share_len t l ns
  rw [hnl] at hlen
  have HNX := hid (fun (ha : 0 < ns.sum) (j n a b : Nat) h1 h2 h3 h4 => share_next (total := t) (least := l) ha (j := j) (n := n) (a := a) (b := b) h1 h2 h3 h4)
  have hns0 : ns ≠ [] := by intro h; rw [h] at hnl; simp at hnl; omega
  have HSUM := hid (share_sum (total := t) (least := l) hns0 (by rw [hnl]; exact h5))
  generalize shareL t l ns = out at cSa cSb hlen HNX HSUM
  obtain ⟨n, hn⟩ : ∃ n, ws.length = n := ⟨_, rfl⟩
  have HR := hid R
  obtain ⟨A, cap, rfl, n1, m1⟩ := R.form
  unfold maxLen at m1
  have HSL := hid (show ∀ j, (ns.take j).sum ≤ 1006632960 by
    intro j
    have h7 := take_sum_le2 ns j
    have h8 := sum_lt hnlt
    rw [hnl] at h8
    omega)
  have HNLT := hid hnlt
  rw [hn] at h1 h2 h5 h5' n1 hlen HR hnl ⊢
  have HN := hid hn
  have HNL := hid hnl
  have HNS := hid hns
  have HOL := hid hlen
  have hw : IntKind.i64.wrap ((l : Int) * (n : Int)) = (l : Int) * (n : Int) := by
    rw [IntKind.wrap_i64, ← Int.natCast_mul]
    omega
  have d1 : ¬ (n : Int) < 1 := by omega
  have d2 : ¬ (60 : Int) < (n : Int) := by omega
  have d3 : ¬ (l : Int) < 1 := by omega
  have d4 : ¬ (1000 : Int) < (l : Int) := by omega
  have d5 : ¬ (t : Int) < (l : Int) * (n : Int) := by omega
  have d6 : ¬ (1073741824 : Int) < (t : Int) := by omega
  clear hn hnw hns R hlen h5' h5 hnl hnlt hwn hns0
  go_enter Try.func6, Try.ntmps6
  go_wp2_with fail
  refine cA.out.mono ?_
  rintro _ w1 ⟨rfl, hb⟩
  have HB1 := hid hb
  have HR1 := hid (HR.out.below iEn_len hb)
  clear hb
  go_wp2_with fail
  go_loopw [8, 9, 10] (fun va vb i wr => TwRel w1 ns n va vb i wr) (fun _ _ i _ => n - (intOf i).toNat)
  case atStart => exact ⟨0, Nat.zero_le _, rfl, Owns.nil _ _ _ _, Owns.nil _ _ _ _, fun z h => by simp [Value.ownBlock] at h, Below.refl _ _⟩
  case round =>
    obtain ⟨j, hj, rfl, hOa, hOb, hdis, hB⟩ := hrel
    have HOA := hid hOa
    have HOB := hid hOb
    have HDIS := hid hdis
    have HB := hid hB
    by_cases hjn : j < n
    · obtain ⟨x, hx⟩ : ∃ x, ws[j]? = some x := ⟨_, List.getElem?_eq_getElem (by rw [HN.out]; exact hjn)⟩
      obtain ⟨bx, ox, qx, hvx, _, _, lx, sx⟩ := HR1.out.get iEn_len (by decide) hx
      injection hvx with a1 a2 a3
      subst a1 a3
      have y0 : wr.cell? ⟨bx, ox + j, none⟩ = some (.int .i64 x) := by
        have y := (hB.cell (p := ⟨bx, ox + j * 1, none⟩) lx).trans (sx 0 _ rfl)
        rwa [Nat.mul_one] at y
      have hnx : ns[j]? = some (x % 16777216).toNat := by rw [← HNS.out]; simp [nsOf, hx]
      have hand := and_low24 x
      obtain ⟨m, hm⟩ : ∃ m : Nat, (x % 16777216).toNat = m := ⟨_, rfl⟩
      have hm2 : x % 16777216 = (m : Int) := by omega
      rw [hm] at hnx
      rw [hm2] at hand
      have hml := HNLT.out m (List.mem_of_getElem? hnx)
      have f1 := foi m
      have f2 := foi (2 * m)
      rw [Int.natCast_mul] at f2
      have e2 : IntKind.i64.wrap (((2 : Nat) : Int) * (m : Int)) = ((2 : Nat) : Int) * (m : Int) := by rw [IntKind.wrap_i64]; omega
      have j0 : (0 : Int) ≤ (j : Int) := by omega
      have j1 : (j : Int) < (n : Int) := by omega
      have e3 : IntKind.i64.wrap ((j : Int) + 1) = (j : Int) + 1 := by rw [IntKind.wrap_i64]; omega
      have HSA := hid (flRow_snoc hnx)
      have HSB := hid (flRow_snoc (l := ns.map (2 * ·)) (j := j) (n := 2 * m) (by simp [hnx]))
      have HJN := hid hjn
      have hsz := HOA.out.1
      obtain ⟨Aa, ca, rfl, _⟩ := hOa.form
      obtain ⟨Ab, cb, rfl, _⟩ := hOb.form
      have hj60 : j < 60 := by omega
      clear a2 sx lx hx hjn hB hOa hOb hdis hm hm2 hnx
      have hA0 : Below wr.heap.size wr (wr.alloc (.cells #[.float .f64 (wd m)] 23)) := (Below.refl _ _).alloc (Nat.le_refl _) _
      have HOA' := hid (HOA.out.below hA0)
      have HRm := hid (Rd.of_blk (en := flEn) (l := [wd m]) (Blk.new wr [.float .f64 (wd m)] 23) flEn_len (by unfold maxLen; simp))
      clear hA0
      go_wp2_with (at_builtin; refine wpList_append_rdb rfl _ _ 22 rfl 23 _ 1 8 Try.underlying22 fl_row rfl (by decide) w1.heap.size _ j _ rfl HOA'.out _ rfl [wd m] HRm.out flEn_len cells_fl ?c1 ?c2 ?c3 ?_)
      case c1 => unfold maxLen; simp only [List.length_singleton]; omega
      case c2 => simp only [List.length_singleton]; omega
      case c3 => have := HB.out.size; simp; omega
      intro va4 w4 hOa4 hin4 hC4
      have HOA4 := hid hOa4
      have hC4' := ((Chg.refl (fun g => (Value.slice Aa j ca).ownBlock = some g) wr).alloc (.cells #[.float .f64 (wd m)] 23)).trans' hC4
      have HOB4 := hid (HOB.out.chg hC4' (fun g hg hg2 => HDIS.out g hg2 hg))
      have hbse := fun g hg => (HOA.out.base_le g hg).1
      have HB4 := hid (HB.out.trans (hC4'.below (B := w1.heap.size) HB.out.size (fun i hi hg => by have := hbse i hg; omega)))
      have hbB := fun g hg => (HOB.out.base_le g hg).2
      have HDIS4 := hid (show ∀ z, va4.ownBlock = some z → (Value.slice Ab j cb).ownBlock ≠ some z by
        intro z hz hz2
        rcases hin4 z hz with h | h
        · exact HDIS.out z h hz2
        · have h9 := hbB z hz2
          have : (wr.alloc (.cells #[.float .f64 (wd m)] 23)).heap.size = wr.heap.size + 1 := by simp
          omega)
      have hA0 : Below w4.heap.size w4 (w4.alloc (.cells #[.float .f64 (wd (2 * m))] 23)) := (Below.refl _ _).alloc (Nat.le_refl _) _
      have HOB' := hid (HOB4.out.below hA0)
      have HRm2 := hid (Rd.of_blk (en := flEn) (l := [wd (2 * m)]) (Blk.new w4 [.float .f64 (wd (2 * m))] 23) flEn_len (by unfold maxLen; simp))
      obtain ⟨Aa4, ca4, rfl, _⟩ := hOa4.form
      clear hA0 hOa4 hin4 hC4 hC4' HOA HOB HDIS HB HOA' HRm y0
      go_wp2_with (at_builtin; refine wpList_append_rdb rfl _ _ 22 rfl 23 _ 1 8 Try.underlying22 fl_row rfl (by decide) w1.heap.size _ j _ rfl HOB'.out _ rfl [wd (2 * m)] HRm2.out flEn_len cells_fl ?c1 ?c2 ?c3 ?_)
      case c1 => unfold maxLen; simp only [List.length_singleton]; omega
      case c2 => simp only [List.length_singleton]; omega
      case c3 => have := HB4.out.size; simp; omega
      intro vb5 w5 hOb5 hin5 hC5
      have HOB5 := hid hOb5
      have hC5' := ((Chg.refl (fun g => (Value.slice Ab j cb).ownBlock = some g) w4).alloc (.cells #[.float .f64 (wd (2 * m))] 23)).trans' hC5
      have HOA5 := hid (HOA4.out.chg hC5' (fun g hg hg2 => HDIS4.out g hg hg2))
      have hbse := fun g hg => (HOB4.out.base_le g hg).1
      have HB5 := hid (HB4.out.trans (hC5'.below (B := w1.heap.size) HB4.out.size (fun i hi hg => by have := hbse i hg; omega)))
      have hbA := fun g hg => (HOA4.out.base_le g hg).2
      have HDIS5 := hid (show ∀ z, (Value.slice Aa4 (j + 1) ca4).ownBlock = some z → vb5.ownBlock ≠ some z by
        intro z hz hz2
        rcases hin5 z hz2 with h | h
        · exact HDIS4.out z hz h
        · have h9 := hbA z hz
          have : (w4.alloc (.cells #[.float .f64 (wd (2 * m))] 23)).heap.size = w4.heap.size + 1 := by simp
          omega)
      obtain ⟨Ab5, cb5, rfl, _⟩ := hOb5.form
      clear hOb5 hin5 hC5 hC5' HOA4 HOB4 HDIS4 HB4 HOB' HRm2
      go_wp2_with fail
      go_roundw
      case rel => exact ⟨j + 1, HJN.out, by go_num, by rw [HSA.out]; exact HOA5.out, by rw [HSB.out]; exact HOB5.out, HDIS5.out, HB5.out⟩
      case measure => have := HJN.out; simp only [intOf]; omega
    · have c3 : ¬ (j : Int) < (n : Int) := by omega
      have hjj : j = n := by omega
      subst hjj
      have ht1 : ns.take j = ns := List.take_of_length_le (by rw [HNL.out]; omega)
      have ht2 : (ns.map (2 * ·)).take j = ns.map (2 * ·) := List.take_of_length_le (by rw [List.length_map, HNL.out]; omega)
      rw [ht1] at HOA
      rw [ht2] at HOB
      have HRA := hid (Rd.of_owns (en := flEn) (l := ns.map wd) (by rw [List.length_map, HNL.out]; exact HOA.out) flEn_len)
      have HRB := hid (Rd.of_owns (en := flEn) (l := (ns.map (2 * ·)).map wd) (by rw [List.length_map, List.length_map, HNL.out]; exact HOB.out) flEn_len)
      obtain ⟨Aa, ca, rfl, na, ma⟩ := hOa.form
      obtain ⟨Ab, cb, rfl, _⟩ := hOb.form
      have HBW := hid (HB1.out.trans (hB.mono HB1.out.size))
      unfold maxLen at ma
      clear hOa hOb hB hdis HDIS HOA HOB HB ht1 ht2
      go_wp2_with fail
      refine (cSa.out _ _ HRA.out).mono ?_
      rintro _ w4 ⟨⟨vo, rfl, hO⟩, hb⟩
      have HI4 := hid (RI.of_owns hO)
      have HB4 := hid (held_next HBW.out hb)
      have HRA4 := hid (HRA.out.below flEn_len hb)
      have HRB4 := hid (HRB.out.below flEn_len hb)
      obtain ⟨Ax, cx, rfl, nx, mx, hcx⟩ := hO.form
      rw [HOL.out] at hcx nx HI4 ⊢
      obtain ⟨gX, rfl, _, hgx, hcell⟩ := hcx (by omega)
      have HCX := hid hcell
      have HGX := hid hgx
      clear hO hb hcx hcell hgx HRA HRB HBW cSa
      go_wp2_with fail
      refine (cSb.out _ _ HRB4.out).mono ?_
      rintro _ w5 ⟨⟨vo, rfl, hO⟩, hb⟩
      have HI5 := hid (RI.of_owns hO)
      have HI45 := hid (HI4.out.below hb)
      have HB5 := hid (held_next HB4.out hb)
      have HRA5 := hid (HRA4.out.below flEn_len hb)
      have HCX5 := hid (fun (k : Nat) (hk : k < j) => (hb.cell (p := ⟨gX, k, none⟩) HGX.out).trans (HCX.out k (by omega)))
      have HGX5 := hid (Nat.lt_of_lt_of_le HGX.out hb.size)
      obtain ⟨Ay, cy, rfl, _⟩ := hO.form
      rw [HOL.out] at HI5 ⊢
      clear hO hb HRA4 HRB4 HB4 HCX HGX HI4 cSb
      unfold maxLen at mx
      have dn : ((j : Int) != (j : Int)) = false := by simp
      go_wp2_with fail
      refine (cN.out _ _).mono ?_
      rintro _ w6 ⟨rfl, rfl⟩
      go_wp2_with fail
      refine (cN.out _ _).mono ?_
      rintro _ w6 ⟨rfl, rfl⟩
      go_wp2_with fail
      refine (ref_sameInts_eq _ _ _ out (by first | exact HI45.out | trivial) (by first | exact HI5.out | trivial)).mono ?_
      rintro _ w6 ⟨rfl, hb⟩
      have HB6 := hid (held_next HB5.out hb)
      have HRA6 := hid (HRA5.out.below flEn_len hb)
      have HCX6 := hid (fun (k : Nat) (hk : k < j) => (hb.cell (p := ⟨gX, k, none⟩) HGX5.out).trans (HCX5.out k hk))
      have HGX6 := hid (Nat.lt_of_lt_of_le HGX5.out hb.size)
      clear hb HB5 HRA5 HCX5 HGX5 HI5 HI45
      go_wp2_with fail
      go_loopw [16, 17] (fun all i wr => TwSum w6 ns j all i wr) (fun _ i _ => j - (intOf i).toNat)
      case atStart => exact ⟨0, Nat.zero_le _, rfl, by simp [wd_zero], Below.refl _ _⟩
      case round =>
        obtain ⟨i, hi, rfl, rfl, hB⟩ := hrel
        have HBi := hid hB
        by_cases hij : i < j
        · obtain ⟨m, hm⟩ : ∃ m, ns[i]? = some m := ⟨_, List.getElem?_eq_getElem (by rw [HNL.out]; exact hij)⟩
          have hml := HNLT.out m (List.mem_of_getElem? hm)
          obtain ⟨bx, ox, qx, hvx, _, _, lx, sx⟩ := HRA6.out.get flEn_len (by decide) (k := i) (x := wd m) (by simp [hm])
          injection hvx with a1 a2 a3
          subst a1 a3
          have y0 : wr.cell? ⟨bx, ox + i, none⟩ = some (.float .f64 (wd m)) := by
            have y := (hB.cell (p := ⟨bx, ox + i * 1, none⟩) lx).trans (sx 0 _ rfl)
            rwa [Nat.mul_one] at y
          have HSS := hid (take_sum_snoc2 hm)
          have hs1 := HSL.out i
          generalize (ns.take i).sum = s at hs1 HSS ⊢
          have q1 := fun t w => run_float_arith (P := Try.prog) w .add t .f64 _ _ _ (add_wd (n := s) (m := m) (by omega))
          have i0 : (0 : Int) ≤ (i : Int) := by omega
          have i1 : (i : Int) < (j : Int) := by omega
          have ei : IntKind.i64.wrap ((i : Int) + 1) = (i : Int) + 1 := by rw [IntKind.wrap_i64]; omega
          have HIJ := hid hij
          clear a2 lx sx hm hij hB
          generalize wd m = fm at y0 q1
          generalize wd s = fs at q1 ⊢
          go_wp2_with fail
          go_roundw
          case rel => exact ⟨i + 1, HIJ.out, by go_num, by rw [HSS.out], HBi.out⟩
          case measure => have := HIJ.out; simp only [intOf]; omega
        · have c4 : ¬ (i : Int) < (j : Int) := by omega
          have hij2 : i = j := by omega
          subst hij2
          have HBW := hid (HB6.out.trans (hB.mono HB6.out.size))
          have HRW := hid (HRA6.out.below flEn_len hB)
          have HCW := hid (fun (k : Nat) (hk : k < i) => (hB.cell (p := ⟨gX, k, none⟩) HGX6.out).trans (HCX6.out k hk))
          have HGW := hid (Nat.lt_of_lt_of_le HGX6.out hB.size)
          have hs1 := HSL.out i
          rw [show ns.take i = ns from List.take_of_length_le (by rw [HNL.out]; omega)] at hs1 ⊢
          obtain ⟨s, hs⟩ : ∃ s, ns.sum = s := ⟨_, rfl⟩
          rw [hs] at hs1 ⊢ HNX
          have hgt := wd_gt (n := s) (by omega)
          have hF : FloatKind.f64.format = Ieee.double := rfl
          rename World => wa
          clear hB HBi hs
          generalize wd s = fs at *
          go_wp2_with fail
          go_loopw [18] (fun k wr => TwIx wa i k wr) (fun k _ => i - (intOf k).toNat)
          case atStart => exact ⟨1, Nat.le_refl _, h1, rfl, Below.refl _ _⟩
          case round =>
            obtain ⟨k, hk1, hk, rfl, hB⟩ := hrel
            have HBk := hid hB
            by_cases hki : k < i
            · have k0 : (0 : Int) ≤ (k : Int) := by omega
              have k1 : (k : Int) < (i : Int) := by omega
              by_cases hs0 : 0 < s
              · rw [decide_eq_true hs0] at hgt
                obtain ⟨q, hq⟩ : ∃ q, k = q + 1 := ⟨k - 1, by omega⟩
                obtain ⟨a, ha⟩ : ∃ a, out[k]? = some a := ⟨_, List.getElem?_eq_getElem (by rw [HOL.out]; exact hki)⟩
                obtain ⟨b, hb⟩ : ∃ b, out[q]? = some b := ⟨_, List.getElem?_eq_getElem (by rw [HOL.out]; omega)⟩
                obtain ⟨nk, hnk⟩ : ∃ a, ns[k]? = some a := ⟨_, List.getElem?_eq_getElem (by rw [HNL.out]; exact hki)⟩
                obtain ⟨nq, hnq⟩ : ∃ b, ns[q]? = some b := ⟨_, List.getElem?_eq_getElem (by rw [HNL.out]; omega)⟩
                have hnkl := HNLT.out nk (List.mem_of_getElem? hnk)
                have hnql := HNLT.out nq (List.mem_of_getElem? hnq)
                obtain ⟨bx, ox, qx, hvx, _, _, lx, sx⟩ := (HRW.out.below flEn_len hB).get flEn_len (by decide) (k := k) (x := wd nk) (by simp [hnk])
                obtain ⟨by', oy, qy, hvy, _, _, ly, sy⟩ := (HRW.out.below flEn_len hB).get flEn_len (by decide) (k := q) (x := wd nq) (by simp [hnq])
                injection hvx with a1 a2 a3
                subst a1
                injection hvy with b1 b2 b3
                injection b1 with b1
                injection b1 with b1 b4 b5
                subst b1 b4 a3
                have y0 : wr.cell? ⟨bx, ox + k, none⟩ = some (.float .f64 (wd nk)) := by have y := sx 0 _ rfl; rwa [Nat.mul_one] at y
                have y1 : wr.cell? ⟨bx, ox + q, none⟩ = some (.float .f64 (wd nq)) := by have y := sy 0 _ rfl; rwa [Nat.mul_one] at y
                have y2 : wr.cell? ⟨gX, k, none⟩ = some (.int .i64 (a : Int)) := (hB.cell (p := ⟨gX, k, none⟩) HGW.out).trans ((HCW.out k hki).trans (intsV_get ha))
                have y3 : wr.cell? ⟨gX, q, none⟩ = some (.int .i64 (b : Int)) := (hB.cell (p := ⟨gX, q, none⟩) HGW.out).trans ((HCW.out q (by omega)).trans (intsV_get hb))
                have hb1 : b ≤ 1073741824 := by
                  have h1 := take_sum_le2 out (q + 1)
                  rw [take_sum_snoc2 hb, HSUM.out] at h1
                  omega
                have q0 : (0 : Int) ≤ (q : Int) := by omega
                have q1 : (q : Int) < (i : Int) := by omega
                have ek : IntKind.i64.wrap ((k : Int) + 1) = (k : Int) + 1 := by rw [IntKind.wrap_i64]; omega
                have eq : IntKind.i64.wrap ((k : Int) - 1) = (q : Int) := by rw [IntKind.wrap_i64]; omega
                have eb : IntKind.i64.wrap ((b : Int) - 1) = (b : Int) - 1 := by rw [IntKind.wrap_i64]; omega
                have hcase : (Ieee.double.order (wd nk) (wd nq) == some .eq) = false ∨ ((Ieee.double.order (wd nk) (wd nq) == some .eq) = true ∧ (a : Int) = (b : Int)) ∨ ((Ieee.double.order (wd nk) (wd nq) == some .eq) = true ∧ (a : Int) ≠ (b : Int) ∧ (a : Int) = (b : Int) - 1) := by
                  by_cases hE : nk = nq
                  · have hE2 : (Ieee.double.order (wd nk) (wd nq) == some .eq) = true := by rw [eq_wd (by omega) (by omega)]; exact decide_eq_true hE
                    subst hE
                    rw [hq] at ha hnk
                    rcases HNX.out hs0 q nk b a hnq hnk hb ha with h | h
                    · exact .inr (.inl ⟨hE2, by omega⟩)
                    · exact .inr (.inr ⟨hE2, by omega, by omega⟩)
                  · exact .inl (by rw [eq_wd (by omega) (by omega)]; exact decide_eq_false hE)
                obtain ⟨aI, haI⟩ : ∃ z : Int, (a : Int) = z := ⟨_, rfl⟩
                obtain ⟨bI, hbI⟩ : ∃ z : Int, (b : Int) = z := ⟨_, rfl⟩
                have HKI := hid hki
                rw [haI] at y2 hcase
                rw [hbI] at y3 hcase eb
                clear haI hbI hb1 ha hb hnk hnq hnkl hnql sx lx sy ly hq hB hki a2 b2 b3 hk1
                generalize wd nk = fk at *
                generalize wd nq = fq at *
                rcases hcase with e1 | ⟨e1, e2⟩ | ⟨e1, e2, e3⟩
                · go_wp2_with fail
                  have hS : (wr.drew.cell? ⟨bx, ox + k, none⟩ = some (.float .f64 fk)) ∧ (wr.drew.cell? ⟨bx, ox + q, none⟩ = some (.float .f64 fq)) ∧ (wr.drew.cell? ⟨gX, k, none⟩ = some (.int .i64 aI)) ∧ (wr.drew.cell? ⟨gX, q, none⟩ = some (.int .i64 bI)) := ⟨y0, y1, y2, y3⟩
                  refine wp_region_ord (fun w' => (w'.cell? ⟨bx, ox + k, none⟩ = some (.float .f64 fk)) ∧ (w'.cell? ⟨bx, ox + q, none⟩ = some (.float .f64 fq)) ∧ (w'.cell? ⟨gX, k, none⟩ = some (.int .i64 aI)) ∧ (w'.cell? ⟨gX, q, none⟩ = some (.int .i64 bI))) (by kernel_rfl) hS ?_
                  refine ord_still 0 rfl (v := ?_) (by kernel_rfl) (fun _ _ _ h => h) rfl (fun W hW => ?_) hS ?_
                  rotate_left
                  · try dsimp only at hW
                    go_simp
                    try with_reducible rfl
                  simp only [Act.put, List.setIfInBounds_toArray, List.set_cons_zero, List.set_cons_succ]
                  refine ord_still 1 rfl (v := ?_) (by kernel_rfl) (fun _ _ _ h => h) rfl (fun W hW => ?_) hS ?_
                  rotate_left
                  · try dsimp only at hW
                    go_simp
                    try with_reducible rfl
                  simp only [Act.put, List.setIfInBounds_toArray, List.set_cons_zero, List.set_cons_succ]
                  refine ord_still 2 rfl (v := ?_) (by kernel_rfl) (fun _ _ _ h => h) rfl (fun W hW => ?_) hS ?_
                  rotate_left
                  · try dsimp only at hW
                    go_simp
                    try with_reducible rfl
                  simp only [Act.put, List.setIfInBounds_toArray, List.set_cons_zero, List.set_cons_succ]
                  refine ord_still 3 rfl (v := ?_) (by kernel_rfl) (fun _ _ _ h => h) rfl (fun W hW => ?_) hS ?_
                  rotate_left
                  · try dsimp only at hW
                    go_simp
                    try with_reducible rfl
                  simp only [Act.put, List.setIfInBounds_toArray, List.set_cons_zero, List.set_cons_succ]
                  refine ord_still 4 rfl (v := ?_) (by kernel_rfl) (fun _ _ _ h => h) rfl (fun W hW => ?_) hS ?_
                  rotate_left
                  · try dsimp only at hW
                    go_simp
                    try with_reducible rfl
                  simp only [Act.put, List.setIfInBounds_toArray, List.set_cons_zero, List.set_cons_succ]
                  refine ord_still 5 rfl (v := ?_) (by kernel_rfl) (fun _ _ _ h => h) rfl (fun W hW => ?_) hS ?_
                  rotate_left
                  · try dsimp only at hW
                    go_simp
                    try with_reducible rfl
                  simp only [Act.put, List.setIfInBounds_toArray, List.set_cons_zero, List.set_cons_succ]
                  refine ord_still 6 rfl (v := ?_) (by kernel_rfl) (fun _ _ _ h => h) rfl (fun W hW => ?_) hS ?_
                  rotate_left
                  · try dsimp only at hW
                    go_simp
                    try with_reducible rfl
                  simp only [Act.put, List.setIfInBounds_toArray, List.set_cons_zero, List.set_cons_succ]
                  refine ord_still 7 rfl (v := ?_) (by kernel_rfl) (fun _ _ _ h => h) rfl (fun W hW => ?_) hS ?_
                  rotate_left
                  · try dsimp only at hW
                    go_simp
                    try with_reducible rfl
                  simp only [Act.put, List.setIfInBounds_toArray, List.set_cons_zero, List.set_cons_succ]
                  refine ord_still 8 rfl (v := ?_) (by kernel_rfl) (fun _ _ _ h => h) rfl (fun W hW => ?_) hS ?_
                  rotate_left
                  · try dsimp only at hW
                    go_simp
                    try with_reducible rfl
                  simp only [Act.put, List.setIfInBounds_toArray, List.set_cons_zero, List.set_cons_succ]
                  refine ord_still 9 rfl (v := ?_) (by kernel_rfl) (fun _ _ _ h => h) rfl (fun W hW => ?_) hS ?_
                  rotate_left
                  · try dsimp only at hW
                    go_simp
                    try with_reducible rfl
                  simp only [Act.put, List.setIfInBounds_toArray, List.set_cons_zero, List.set_cons_succ]
                  refine ord_still 10 rfl (v := ?_) (by kernel_rfl) (fun _ _ _ h => h) rfl (fun W hW => ?_) hS ?_
                  rotate_left
                  · try dsimp only at hW
                    go_simp
                    try with_reducible rfl
                  simp only [Act.put, List.setIfInBounds_toArray, List.set_cons_zero, List.set_cons_succ]
                  refine ord_skip 11 rfl (by kernel_rfl) (fun _ _ _ h => h) rfl hS ?_
                  simp only [Act.put, List.setIfInBounds_toArray, List.set_cons_zero, List.set_cons_succ]
                  refine ord_skip 12 rfl (by kernel_rfl) (fun _ _ _ h => h) rfl hS ?_
                  simp only [Act.put, List.setIfInBounds_toArray, List.set_cons_zero, List.set_cons_succ]
                  refine ord_skip 13 rfl (by kernel_rfl) (fun _ _ _ h => h) rfl hS ?_
                  simp only [Act.put, List.setIfInBounds_toArray, List.set_cons_zero, List.set_cons_succ]
                  refine ord_skip 14 rfl (by kernel_rfl) (fun _ _ _ h => h) rfl hS ?_
                  simp only [Act.put, List.setIfInBounds_toArray, List.set_cons_zero, List.set_cons_succ]
                  refine ord_skip 15 rfl (by kernel_rfl) (fun _ _ _ h => h) rfl hS ?_
                  simp only [Act.put, List.setIfInBounds_toArray, List.set_cons_zero, List.set_cons_succ]
                  refine ord_skip 16 rfl (by kernel_rfl) (fun _ _ _ h => h) rfl hS ?_
                  simp only [Act.put, List.setIfInBounds_toArray, List.set_cons_zero, List.set_cons_succ]
                  refine ord_skip 17 rfl (by kernel_rfl) (fun _ _ _ h => h) rfl hS ?_
                  simp only [Act.put, List.setIfInBounds_toArray, List.set_cons_zero, List.set_cons_succ]
                  refine ord_skip 18 rfl (by kernel_rfl) (fun _ _ _ h => h) rfl hS ?_
                  simp only [Act.put, List.setIfInBounds_toArray, List.set_cons_zero, List.set_cons_succ]
                  refine ord_skip 19 rfl (by kernel_rfl) (fun _ _ _ h => h) rfl hS ?_
                  simp only [Act.put, List.setIfInBounds_toArray, List.set_cons_zero, List.set_cons_succ]
                  refine ord_skip 20 rfl (by kernel_rfl) (fun _ _ _ h => h) rfl hS ?_
                  simp only [Act.put, List.setIfInBounds_toArray, List.set_cons_zero, List.set_cons_succ]
                  refine ord_still 21 rfl (v := ?_) (by kernel_rfl) (fun _ _ _ h => h) rfl (fun W hW => ?_) hS ?_
                  rotate_left
                  · try dsimp only at hW
                    go_simp
                    try with_reducible rfl
                  simp only [Act.put, List.setIfInBounds_toArray, List.set_cons_zero, List.set_cons_succ]
                  refine ord_still 22 rfl (v := ?_) (by kernel_rfl) (fun _ _ _ h => h) rfl (fun W hW => ?_) hS ?_
                  rotate_left
                  · try dsimp only at hW
                    go_simp
                    try with_reducible rfl
                  simp only [Act.put, List.setIfInBounds_toArray, List.set_cons_zero, List.set_cons_succ]
                  refine ord_skip 23 rfl (by kernel_rfl) (fun _ _ _ h => h) rfl hS ?_
                  simp only [Act.put, List.setIfInBounds_toArray, List.set_cons_zero, List.set_cons_succ]
                  refine ord_skip 24 rfl (by kernel_rfl) (fun _ _ _ h => h) rfl hS ?_
                  simp only [Act.put, List.setIfInBounds_toArray, List.set_cons_zero, List.set_cons_succ]
                  refine ord_skip 25 rfl (by kernel_rfl) (fun _ _ _ h => h) rfl hS ?_
                  simp only [Act.put, List.setIfInBounds_toArray, List.set_cons_zero, List.set_cons_succ]
                  refine ord_skip 26 rfl (by kernel_rfl) (fun _ _ _ h => h) rfl hS ?_
                  simp only [Act.put, List.setIfInBounds_toArray, List.set_cons_zero, List.set_cons_succ]
                  refine ord_skip 27 rfl (by kernel_rfl) (fun _ _ _ h => h) rfl hS ?_
                  simp only [Act.put, List.setIfInBounds_toArray, List.set_cons_zero, List.set_cons_succ]
                  refine ord_skip 28 rfl (by kernel_rfl) (fun _ _ _ h => h) rfl hS ?_
                  simp only [Act.put, List.setIfInBounds_toArray, List.set_cons_zero, List.set_cons_succ]
                  refine ord_skip 29 rfl (by kernel_rfl) (fun _ _ _ h => h) rfl hS ?_
                  simp only [Act.put, List.setIfInBounds_toArray, List.set_cons_zero, List.set_cons_succ]
                  refine ord_skip 30 rfl (by kernel_rfl) (fun _ _ _ h => h) rfl hS ?_
                  simp only [Act.put, List.setIfInBounds_toArray, List.set_cons_zero, List.set_cons_succ]
                  refine ord_skip 31 rfl (by kernel_rfl) (fun _ _ _ h => h) rfl hS ?_
                  simp only [Act.put, List.setIfInBounds_toArray, List.set_cons_zero, List.set_cons_succ]
                  refine ord_skip 32 rfl (by kernel_rfl) (fun _ _ _ h => h) rfl hS ?_
                  simp only [Act.put, List.setIfInBounds_toArray, List.set_cons_zero, List.set_cons_succ]
                  refine ord_skip 33 rfl (by kernel_rfl) (fun _ _ _ h => h) rfl hS ?_
                  simp only [Act.put, List.setIfInBounds_toArray, List.set_cons_zero, List.set_cons_succ]
                  refine ord_still 34 rfl (v := ?_) (by kernel_rfl) (fun _ _ _ h => h) rfl (fun W hW => ?_) hS ?_
                  rotate_left
                  · try dsimp only at hW
                    go_simp
                    try with_reducible rfl
                  simp only [Act.put, List.setIfInBounds_toArray, List.set_cons_zero, List.set_cons_succ]
                  refine ord_done (by kernel_rfl) ?_
                  clear hS
                  go_wp2_with fail
                  go_roundw
                  case rel => exact ⟨k + 1, by omega, HKI.out, by go_num, HBk.out.drew⟩
                  case measure => have := HKI.out; simp only [intOf]; omega
                · subst e2
                  go_wp2_with fail
                  have hS : (wr.drew.cell? ⟨bx, ox + k, none⟩ = some (.float .f64 fk)) ∧ (wr.drew.cell? ⟨bx, ox + q, none⟩ = some (.float .f64 fq)) ∧ (wr.drew.cell? ⟨gX, k, none⟩ = some (.int .i64 aI)) ∧ (wr.drew.cell? ⟨gX, q, none⟩ = some (.int .i64 aI)) := ⟨y0, y1, y2, y3⟩
                  refine wp_region_ord (fun w' => (w'.cell? ⟨bx, ox + k, none⟩ = some (.float .f64 fk)) ∧ (w'.cell? ⟨bx, ox + q, none⟩ = some (.float .f64 fq)) ∧ (w'.cell? ⟨gX, k, none⟩ = some (.int .i64 aI)) ∧ (w'.cell? ⟨gX, q, none⟩ = some (.int .i64 aI))) (by kernel_rfl) hS ?_
                  refine ord_still 0 rfl (v := ?_) (by kernel_rfl) (fun _ _ _ h => h) rfl (fun W hW => ?_) hS ?_
                  rotate_left
                  · try dsimp only at hW
                    go_simp
                    try with_reducible rfl
                  simp only [Act.put, List.setIfInBounds_toArray, List.set_cons_zero, List.set_cons_succ]
                  refine ord_still 1 rfl (v := ?_) (by kernel_rfl) (fun _ _ _ h => h) rfl (fun W hW => ?_) hS ?_
                  rotate_left
                  · try dsimp only at hW
                    go_simp
                    try with_reducible rfl
                  simp only [Act.put, List.setIfInBounds_toArray, List.set_cons_zero, List.set_cons_succ]
                  refine ord_still 2 rfl (v := ?_) (by kernel_rfl) (fun _ _ _ h => h) rfl (fun W hW => ?_) hS ?_
                  rotate_left
                  · try dsimp only at hW
                    go_simp
                    try with_reducible rfl
                  simp only [Act.put, List.setIfInBounds_toArray, List.set_cons_zero, List.set_cons_succ]
                  refine ord_still 3 rfl (v := ?_) (by kernel_rfl) (fun _ _ _ h => h) rfl (fun W hW => ?_) hS ?_
                  rotate_left
                  · try dsimp only at hW
                    go_simp
                    try with_reducible rfl
                  simp only [Act.put, List.setIfInBounds_toArray, List.set_cons_zero, List.set_cons_succ]
                  refine ord_still 4 rfl (v := ?_) (by kernel_rfl) (fun _ _ _ h => h) rfl (fun W hW => ?_) hS ?_
                  rotate_left
                  · try dsimp only at hW
                    go_simp
                    try with_reducible rfl
                  simp only [Act.put, List.setIfInBounds_toArray, List.set_cons_zero, List.set_cons_succ]
                  refine ord_still 5 rfl (v := ?_) (by kernel_rfl) (fun _ _ _ h => h) rfl (fun W hW => ?_) hS ?_
                  rotate_left
                  · try dsimp only at hW
                    go_simp
                    try with_reducible rfl
                  simp only [Act.put, List.setIfInBounds_toArray, List.set_cons_zero, List.set_cons_succ]
                  refine ord_still 6 rfl (v := ?_) (by kernel_rfl) (fun _ _ _ h => h) rfl (fun W hW => ?_) hS ?_
                  rotate_left
                  · try dsimp only at hW
                    go_simp
                    try with_reducible rfl
                  simp only [Act.put, List.setIfInBounds_toArray, List.set_cons_zero, List.set_cons_succ]
                  refine ord_still 7 rfl (v := ?_) (by kernel_rfl) (fun _ _ _ h => h) rfl (fun W hW => ?_) hS ?_
                  rotate_left
                  · try dsimp only at hW
                    go_simp
                    try with_reducible rfl
                  simp only [Act.put, List.setIfInBounds_toArray, List.set_cons_zero, List.set_cons_succ]
                  refine ord_still 8 rfl (v := ?_) (by kernel_rfl) (fun _ _ _ h => h) rfl (fun W hW => ?_) hS ?_
                  rotate_left
                  · try dsimp only at hW
                    go_simp
                    try with_reducible rfl
                  simp only [Act.put, List.setIfInBounds_toArray, List.set_cons_zero, List.set_cons_succ]
                  refine ord_still 9 rfl (v := ?_) (by kernel_rfl) (fun _ _ _ h => h) rfl (fun W hW => ?_) hS ?_
                  rotate_left
                  · try dsimp only at hW
                    go_simp
                    try with_reducible rfl
                  simp only [Act.put, List.setIfInBounds_toArray, List.set_cons_zero, List.set_cons_succ]
                  refine ord_still 10 rfl (v := ?_) (by kernel_rfl) (fun _ _ _ h => h) rfl (fun W hW => ?_) hS ?_
                  rotate_left
                  · try dsimp only at hW
                    go_simp
                    try with_reducible rfl
                  simp only [Act.put, List.setIfInBounds_toArray, List.set_cons_zero, List.set_cons_succ]
                  refine ord_still 11 rfl (v := ?_) (by kernel_rfl) (fun _ _ _ h => h) rfl (fun W hW => ?_) hS ?_
                  rotate_left
                  · try dsimp only at hW
                    go_simp
                    try with_reducible rfl
                  simp only [Act.put, List.setIfInBounds_toArray, List.set_cons_zero, List.set_cons_succ]
                  refine ord_still 12 rfl (v := ?_) (by kernel_rfl) (fun _ _ _ h => h) rfl (fun W hW => ?_) hS ?_
                  rotate_left
                  · try dsimp only at hW
                    go_simp
                    try with_reducible rfl
                  simp only [Act.put, List.setIfInBounds_toArray, List.set_cons_zero, List.set_cons_succ]
                  refine ord_still 13 rfl (v := ?_) (by kernel_rfl) (fun _ _ _ h => h) rfl (fun W hW => ?_) hS ?_
                  rotate_left
                  · try dsimp only at hW
                    go_simp
                    try with_reducible rfl
                  simp only [Act.put, List.setIfInBounds_toArray, List.set_cons_zero, List.set_cons_succ]
                  refine ord_still 14 rfl (v := ?_) (by kernel_rfl) (fun _ _ _ h => h) rfl (fun W hW => ?_) hS ?_
                  rotate_left
                  · try dsimp only at hW
                    go_simp
                    try with_reducible rfl
                  simp only [Act.put, List.setIfInBounds_toArray, List.set_cons_zero, List.set_cons_succ]
                  refine ord_still 15 rfl (v := ?_) (by kernel_rfl) (fun _ _ _ h => h) rfl (fun W hW => ?_) hS ?_
                  rotate_left
                  · try dsimp only at hW
                    go_simp
                    try with_reducible rfl
                  simp only [Act.put, List.setIfInBounds_toArray, List.set_cons_zero, List.set_cons_succ]
                  refine ord_still 16 rfl (v := ?_) (by kernel_rfl) (fun _ _ _ h => h) rfl (fun W hW => ?_) hS ?_
                  rotate_left
                  · try dsimp only at hW
                    go_simp
                    try with_reducible rfl
                  simp only [Act.put, List.setIfInBounds_toArray, List.set_cons_zero, List.set_cons_succ]
                  refine ord_still 17 rfl (v := ?_) (by kernel_rfl) (fun _ _ _ h => h) rfl (fun W hW => ?_) hS ?_
                  rotate_left
                  · try dsimp only at hW
                    go_simp
                    try with_reducible rfl
                  simp only [Act.put, List.setIfInBounds_toArray, List.set_cons_zero, List.set_cons_succ]
                  refine ord_still 18 rfl (v := ?_) (by kernel_rfl) (fun _ _ _ h => h) rfl (fun W hW => ?_) hS ?_
                  rotate_left
                  · try dsimp only at hW
                    go_simp
                    try with_reducible rfl
                  simp only [Act.put, List.setIfInBounds_toArray, List.set_cons_zero, List.set_cons_succ]
                  refine ord_still 19 rfl (v := ?_) (by kernel_rfl) (fun _ _ _ h => h) rfl (fun W hW => ?_) hS ?_
                  rotate_left
                  · try dsimp only at hW
                    go_simp
                    try with_reducible rfl
                  simp only [Act.put, List.setIfInBounds_toArray, List.set_cons_zero, List.set_cons_succ]
                  refine ord_still 20 rfl (v := ?_) (by kernel_rfl) (fun _ _ _ h => h) rfl (fun W hW => ?_) hS ?_
                  rotate_left
                  · try dsimp only at hW
                    go_simp
                    try with_reducible rfl
                  simp only [Act.put, List.setIfInBounds_toArray, List.set_cons_zero, List.set_cons_succ]
                  refine ord_still 21 rfl (v := ?_) (by kernel_rfl) (fun _ _ _ h => h) rfl (fun W hW => ?_) hS ?_
                  rotate_left
                  · try dsimp only at hW
                    go_simp
                    try with_reducible rfl
                  simp only [Act.put, List.setIfInBounds_toArray, List.set_cons_zero, List.set_cons_succ]
                  refine ord_still 22 rfl (v := ?_) (by kernel_rfl) (fun _ _ _ h => h) rfl (fun W hW => ?_) hS ?_
                  rotate_left
                  · try dsimp only at hW
                    go_simp
                    try with_reducible rfl
                  simp only [Act.put, List.setIfInBounds_toArray, List.set_cons_zero, List.set_cons_succ]
                  refine ord_skip 23 rfl (by kernel_rfl) (fun _ _ _ h => h) rfl hS ?_
                  simp only [Act.put, List.setIfInBounds_toArray, List.set_cons_zero, List.set_cons_succ]
                  refine ord_skip 24 rfl (by kernel_rfl) (fun _ _ _ h => h) rfl hS ?_
                  simp only [Act.put, List.setIfInBounds_toArray, List.set_cons_zero, List.set_cons_succ]
                  refine ord_skip 25 rfl (by kernel_rfl) (fun _ _ _ h => h) rfl hS ?_
                  simp only [Act.put, List.setIfInBounds_toArray, List.set_cons_zero, List.set_cons_succ]
                  refine ord_skip 26 rfl (by kernel_rfl) (fun _ _ _ h => h) rfl hS ?_
                  simp only [Act.put, List.setIfInBounds_toArray, List.set_cons_zero, List.set_cons_succ]
                  refine ord_skip 27 rfl (by kernel_rfl) (fun _ _ _ h => h) rfl hS ?_
                  simp only [Act.put, List.setIfInBounds_toArray, List.set_cons_zero, List.set_cons_succ]
                  refine ord_skip 28 rfl (by kernel_rfl) (fun _ _ _ h => h) rfl hS ?_
                  simp only [Act.put, List.setIfInBounds_toArray, List.set_cons_zero, List.set_cons_succ]
                  refine ord_skip 29 rfl (by kernel_rfl) (fun _ _ _ h => h) rfl hS ?_
                  simp only [Act.put, List.setIfInBounds_toArray, List.set_cons_zero, List.set_cons_succ]
                  refine ord_skip 30 rfl (by kernel_rfl) (fun _ _ _ h => h) rfl hS ?_
                  simp only [Act.put, List.setIfInBounds_toArray, List.set_cons_zero, List.set_cons_succ]
                  refine ord_skip 31 rfl (by kernel_rfl) (fun _ _ _ h => h) rfl hS ?_
                  simp only [Act.put, List.setIfInBounds_toArray, List.set_cons_zero, List.set_cons_succ]
                  refine ord_skip 32 rfl (by kernel_rfl) (fun _ _ _ h => h) rfl hS ?_
                  simp only [Act.put, List.setIfInBounds_toArray, List.set_cons_zero, List.set_cons_succ]
                  refine ord_skip 33 rfl (by kernel_rfl) (fun _ _ _ h => h) rfl hS ?_
                  simp only [Act.put, List.setIfInBounds_toArray, List.set_cons_zero, List.set_cons_succ]
                  refine ord_still 34 rfl (v := ?_) (by kernel_rfl) (fun _ _ _ h => h) rfl (fun W hW => ?_) hS ?_
                  rotate_left
                  · try dsimp only at hW
                    go_simp
                    try with_reducible rfl
                  simp only [Act.put, List.setIfInBounds_toArray, List.set_cons_zero, List.set_cons_succ]
                  refine ord_done (by kernel_rfl) ?_
                  clear hS
                  go_wp2_with fail
                  go_roundw
                  case rel => exact ⟨k + 1, by omega, HKI.out, by go_num, HBk.out.drew⟩
                  case measure => have := HKI.out; simp only [intOf]; omega
                · have e4 : (aI != bI) = true := by simpa using e2
                  have e5 : (aI != bI - 1) = false := by rw [e3]; simp
                  clear e2 e3
                  go_wp2_with fail
                  have hS : (wr.drew.cell? ⟨bx, ox + k, none⟩ = some (.float .f64 fk)) ∧ (wr.drew.cell? ⟨bx, ox + q, none⟩ = some (.float .f64 fq)) ∧ (wr.drew.cell? ⟨gX, k, none⟩ = some (.int .i64 aI)) ∧ (wr.drew.cell? ⟨gX, q, none⟩ = some (.int .i64 bI)) := ⟨y0, y1, y2, y3⟩
                  refine wp_region_ord (fun w' => (w'.cell? ⟨bx, ox + k, none⟩ = some (.float .f64 fk)) ∧ (w'.cell? ⟨bx, ox + q, none⟩ = some (.float .f64 fq)) ∧ (w'.cell? ⟨gX, k, none⟩ = some (.int .i64 aI)) ∧ (w'.cell? ⟨gX, q, none⟩ = some (.int .i64 bI))) (by kernel_rfl) hS ?_
                  refine ord_still 0 rfl (v := ?_) (by kernel_rfl) (fun _ _ _ h => h) rfl (fun W hW => ?_) hS ?_
                  rotate_left
                  · try dsimp only at hW
                    go_simp
                    try with_reducible rfl
                  simp only [Act.put, List.setIfInBounds_toArray, List.set_cons_zero, List.set_cons_succ]
                  refine ord_still 1 rfl (v := ?_) (by kernel_rfl) (fun _ _ _ h => h) rfl (fun W hW => ?_) hS ?_
                  rotate_left
                  · try dsimp only at hW
                    go_simp
                    try with_reducible rfl
                  simp only [Act.put, List.setIfInBounds_toArray, List.set_cons_zero, List.set_cons_succ]
                  refine ord_still 2 rfl (v := ?_) (by kernel_rfl) (fun _ _ _ h => h) rfl (fun W hW => ?_) hS ?_
                  rotate_left
                  · try dsimp only at hW
                    go_simp
                    try with_reducible rfl
                  simp only [Act.put, List.setIfInBounds_toArray, List.set_cons_zero, List.set_cons_succ]
                  refine ord_still 3 rfl (v := ?_) (by kernel_rfl) (fun _ _ _ h => h) rfl (fun W hW => ?_) hS ?_
                  rotate_left
                  · try dsimp only at hW
                    go_simp
                    try with_reducible rfl
                  simp only [Act.put, List.setIfInBounds_toArray, List.set_cons_zero, List.set_cons_succ]
                  refine ord_still 4 rfl (v := ?_) (by kernel_rfl) (fun _ _ _ h => h) rfl (fun W hW => ?_) hS ?_
                  rotate_left
                  · try dsimp only at hW
                    go_simp
                    try with_reducible rfl
                  simp only [Act.put, List.setIfInBounds_toArray, List.set_cons_zero, List.set_cons_succ]
                  refine ord_still 5 rfl (v := ?_) (by kernel_rfl) (fun _ _ _ h => h) rfl (fun W hW => ?_) hS ?_
                  rotate_left
                  · try dsimp only at hW
                    go_simp
                    try with_reducible rfl
                  simp only [Act.put, List.setIfInBounds_toArray, List.set_cons_zero, List.set_cons_succ]
                  refine ord_still 6 rfl (v := ?_) (by kernel_rfl) (fun _ _ _ h => h) rfl (fun W hW => ?_) hS ?_
                  rotate_left
                  · try dsimp only at hW
                    go_simp
                    try with_reducible rfl
                  simp only [Act.put, List.setIfInBounds_toArray, List.set_cons_zero, List.set_cons_succ]
                  refine ord_still 7 rfl (v := ?_) (by kernel_rfl) (fun _ _ _ h => h) rfl (fun W hW => ?_) hS ?_
                  rotate_left
                  · try dsimp only at hW
                    go_simp
                    try with_reducible rfl
                  simp only [Act.put, List.setIfInBounds_toArray, List.set_cons_zero, List.set_cons_succ]
                  refine ord_still 8 rfl (v := ?_) (by kernel_rfl) (fun _ _ _ h => h) rfl (fun W hW => ?_) hS ?_
                  rotate_left
                  · try dsimp only at hW
                    go_simp
                    try with_reducible rfl
                  simp only [Act.put, List.setIfInBounds_toArray, List.set_cons_zero, List.set_cons_succ]
                  refine ord_still 9 rfl (v := ?_) (by kernel_rfl) (fun _ _ _ h => h) rfl (fun W hW => ?_) hS ?_
                  rotate_left
                  · try dsimp only at hW
                    go_simp
                    try with_reducible rfl
                  simp only [Act.put, List.setIfInBounds_toArray, List.set_cons_zero, List.set_cons_succ]
                  refine ord_still 10 rfl (v := ?_) (by kernel_rfl) (fun _ _ _ h => h) rfl (fun W hW => ?_) hS ?_
                  rotate_left
                  · try dsimp only at hW
                    go_simp
                    try with_reducible rfl
                  simp only [Act.put, List.setIfInBounds_toArray, List.set_cons_zero, List.set_cons_succ]
                  refine ord_still 11 rfl (v := ?_) (by kernel_rfl) (fun _ _ _ h => h) rfl (fun W hW => ?_) hS ?_
                  rotate_left
                  · try dsimp only at hW
                    go_simp
                    try with_reducible rfl
                  simp only [Act.put, List.setIfInBounds_toArray, List.set_cons_zero, List.set_cons_succ]
                  refine ord_still 12 rfl (v := ?_) (by kernel_rfl) (fun _ _ _ h => h) rfl (fun W hW => ?_) hS ?_
                  rotate_left
                  · try dsimp only at hW
                    go_simp
                    try with_reducible rfl
                  simp only [Act.put, List.setIfInBounds_toArray, List.set_cons_zero, List.set_cons_succ]
                  refine ord_still 13 rfl (v := ?_) (by kernel_rfl) (fun _ _ _ h => h) rfl (fun W hW => ?_) hS ?_
                  rotate_left
                  · try dsimp only at hW
                    go_simp
                    try with_reducible rfl
                  simp only [Act.put, List.setIfInBounds_toArray, List.set_cons_zero, List.set_cons_succ]
                  refine ord_still 14 rfl (v := ?_) (by kernel_rfl) (fun _ _ _ h => h) rfl (fun W hW => ?_) hS ?_
                  rotate_left
                  · try dsimp only at hW
                    go_simp
                    try with_reducible rfl
                  simp only [Act.put, List.setIfInBounds_toArray, List.set_cons_zero, List.set_cons_succ]
                  refine ord_still 15 rfl (v := ?_) (by kernel_rfl) (fun _ _ _ h => h) rfl (fun W hW => ?_) hS ?_
                  rotate_left
                  · try dsimp only at hW
                    go_simp
                    try with_reducible rfl
                  simp only [Act.put, List.setIfInBounds_toArray, List.set_cons_zero, List.set_cons_succ]
                  refine ord_still 16 rfl (v := ?_) (by kernel_rfl) (fun _ _ _ h => h) rfl (fun W hW => ?_) hS ?_
                  rotate_left
                  · try dsimp only at hW
                    go_simp
                    try with_reducible rfl
                  simp only [Act.put, List.setIfInBounds_toArray, List.set_cons_zero, List.set_cons_succ]
                  refine ord_still 17 rfl (v := ?_) (by kernel_rfl) (fun _ _ _ h => h) rfl (fun W hW => ?_) hS ?_
                  rotate_left
                  · try dsimp only at hW
                    go_simp
                    try with_reducible rfl
                  simp only [Act.put, List.setIfInBounds_toArray, List.set_cons_zero, List.set_cons_succ]
                  refine ord_still 18 rfl (v := ?_) (by kernel_rfl) (fun _ _ _ h => h) rfl (fun W hW => ?_) hS ?_
                  rotate_left
                  · try dsimp only at hW
                    go_simp
                    try with_reducible rfl
                  simp only [Act.put, List.setIfInBounds_toArray, List.set_cons_zero, List.set_cons_succ]
                  refine ord_still 19 rfl (v := ?_) (by kernel_rfl) (fun _ _ _ h => h) rfl (fun W hW => ?_) hS ?_
                  rotate_left
                  · try dsimp only at hW
                    go_simp
                    try with_reducible rfl
                  simp only [Act.put, List.setIfInBounds_toArray, List.set_cons_zero, List.set_cons_succ]
                  refine ord_still 20 rfl (v := ?_) (by kernel_rfl) (fun _ _ _ h => h) rfl (fun W hW => ?_) hS ?_
                  rotate_left
                  · try dsimp only at hW
                    go_simp
                    try with_reducible rfl
                  simp only [Act.put, List.setIfInBounds_toArray, List.set_cons_zero, List.set_cons_succ]
                  refine ord_still 21 rfl (v := ?_) (by kernel_rfl) (fun _ _ _ h => h) rfl (fun W hW => ?_) hS ?_
                  rotate_left
                  · try dsimp only at hW
                    go_simp
                    try with_reducible rfl
                  simp only [Act.put, List.setIfInBounds_toArray, List.set_cons_zero, List.set_cons_succ]
                  refine ord_still 22 rfl (v := ?_) (by kernel_rfl) (fun _ _ _ h => h) rfl (fun W hW => ?_) hS ?_
                  rotate_left
                  · try dsimp only at hW
                    go_simp
                    try with_reducible rfl
                  simp only [Act.put, List.setIfInBounds_toArray, List.set_cons_zero, List.set_cons_succ]
                  refine ord_still 23 rfl (v := ?_) (by kernel_rfl) (fun _ _ _ h => h) rfl (fun W hW => ?_) hS ?_
                  rotate_left
                  · try dsimp only at hW
                    go_simp
                    try with_reducible rfl
                  simp only [Act.put, List.setIfInBounds_toArray, List.set_cons_zero, List.set_cons_succ]
                  refine ord_still 24 rfl (v := ?_) (by kernel_rfl) (fun _ _ _ h => h) rfl (fun W hW => ?_) hS ?_
                  rotate_left
                  · try dsimp only at hW
                    go_simp
                    try with_reducible rfl
                  simp only [Act.put, List.setIfInBounds_toArray, List.set_cons_zero, List.set_cons_succ]
                  refine ord_still 25 rfl (v := ?_) (by kernel_rfl) (fun _ _ _ h => h) rfl (fun W hW => ?_) hS ?_
                  rotate_left
                  · try dsimp only at hW
                    go_simp
                    try with_reducible rfl
                  simp only [Act.put, List.setIfInBounds_toArray, List.set_cons_zero, List.set_cons_succ]
                  refine ord_still 26 rfl (v := ?_) (by kernel_rfl) (fun _ _ _ h => h) rfl (fun W hW => ?_) hS ?_
                  rotate_left
                  · try dsimp only at hW
                    go_simp
                    try with_reducible rfl
                  simp only [Act.put, List.setIfInBounds_toArray, List.set_cons_zero, List.set_cons_succ]
                  refine ord_still 27 rfl (v := ?_) (by kernel_rfl) (fun _ _ _ h => h) rfl (fun W hW => ?_) hS ?_
                  rotate_left
                  · try dsimp only at hW
                    go_simp
                    try with_reducible rfl
                  simp only [Act.put, List.setIfInBounds_toArray, List.set_cons_zero, List.set_cons_succ]
                  refine ord_still 28 rfl (v := ?_) (by kernel_rfl) (fun _ _ _ h => h) rfl (fun W hW => ?_) hS ?_
                  rotate_left
                  · try dsimp only at hW
                    go_simp
                    try with_reducible rfl
                  simp only [Act.put, List.setIfInBounds_toArray, List.set_cons_zero, List.set_cons_succ]
                  refine ord_still 29 rfl (v := ?_) (by kernel_rfl) (fun _ _ _ h => h) rfl (fun W hW => ?_) hS ?_
                  rotate_left
                  · try dsimp only at hW
                    go_simp
                    try with_reducible rfl
                  simp only [Act.put, List.setIfInBounds_toArray, List.set_cons_zero, List.set_cons_succ]
                  refine ord_still 30 rfl (v := ?_) (by kernel_rfl) (fun _ _ _ h => h) rfl (fun W hW => ?_) hS ?_
                  rotate_left
                  · try dsimp only at hW
                    go_simp
                    try with_reducible rfl
                  simp only [Act.put, List.setIfInBounds_toArray, List.set_cons_zero, List.set_cons_succ]
                  refine ord_still 31 rfl (v := ?_) (by kernel_rfl) (fun _ _ _ h => h) rfl (fun W hW => ?_) hS ?_
                  rotate_left
                  · try dsimp only at hW
                    go_simp
                    try with_reducible rfl
                  simp only [Act.put, List.setIfInBounds_toArray, List.set_cons_zero, List.set_cons_succ]
                  refine ord_still 32 rfl (v := ?_) (by kernel_rfl) (fun _ _ _ h => h) rfl (fun W hW => ?_) hS ?_
                  rotate_left
                  · try dsimp only at hW
                    go_simp
                    try with_reducible rfl
                  simp only [Act.put, List.setIfInBounds_toArray, List.set_cons_zero, List.set_cons_succ]
                  refine ord_still 33 rfl (v := ?_) (by kernel_rfl) (fun _ _ _ h => h) rfl (fun W hW => ?_) hS ?_
                  rotate_left
                  · try dsimp only at hW
                    go_simp
                    try with_reducible rfl
                  simp only [Act.put, List.setIfInBounds_toArray, List.set_cons_zero, List.set_cons_succ]
                  refine ord_still 34 rfl (v := ?_) (by kernel_rfl) (fun _ _ _ h => h) rfl (fun W hW => ?_) hS ?_
                  rotate_left
                  · try dsimp only at hW
                    go_simp
                    try with_reducible rfl
                  simp only [Act.put, List.setIfInBounds_toArray, List.set_cons_zero, List.set_cons_succ]
                  refine ord_done (by kernel_rfl) ?_
                  clear hS
                  go_wp2_with fail
                  go_roundw
                  case rel => exact ⟨k + 1, by omega, HKI.out, by go_num, HBk.out.drew⟩
                  case measure => have := HKI.out; simp only [intOf]; omega
              · have hs1 : s = 0 := by omega
                subst hs1
                rw [decide_eq_false (by omega)] at hgt
                go_wp2_with fail
                go_ret
                exact ⟨rfl, HBW.out.trans (HBk.out.mono HBW.out.size)⟩
            · have c5 : ¬ (k : Int) < (i : Int) := by omega
              go_wp2_with fail
              go_ret
              exact ⟨rfl, HBW.out.trans (HBk.out.mono HBW.out.size)⟩
theorem weighTwice_walk (W : World) (total : Int) (wt : (Lit.int .i64 total).wf = true) (least : Int) (wl : (Lit.int .i64 least).wf = true) (v : Value) (l : List Int) (R : Rd iEn 1 W v l) (okl : ∀ x ∈ l, (Lit.int .i64 x).wf = true) :
    Calls Try.prog 6 #[.int .i64 total, .int .i64 least, v] W fun e W' => e = .returned (.bool true) ∧ Below W.heap.size W W' := by
  by_cases h : ((l.length : Int) < 1 ∨ 60 < (l.length : Int) ∨ least < 1 ∨ 1000 < least ∨ 1073741824 < total ∨ total < least * (l.length : Int))
  · obtain ⟨A, cap, rfl, _⟩ := R.form
    exact weighTwice_out W A l.length cap total least l.length rfl h
  · obtain ⟨k, rfl⟩ := Int.eq_ofNat_of_zero_le (show 0 ≤ least by omega)
    have h0 : (0 : Int) ≤ (k : Int) * (l.length : Int) := Int.mul_nonneg (by omega) (by omega)
    obtain ⟨t, rfl⟩ := Int.eq_ofNat_of_zero_le (show 0 ≤ total by omega)
    have h5 : k * l.length ≤ t := by
      have : ¬ ((t : Nat) : Int) < ((k * l.length : Nat) : Int) := by rw [Int.natCast_mul]; omega
      omega
    exact weighTwice_in W v l R t k (by omega) (by omega) (by omega) (by omega) h5 (by omega)

end Go.Proofs.Ytcnecjjgnnkjkaa
