/-
  Sorting routes stably, as the library does: the order, and one row in order by putting each into its place. No condition.
-/
import Derived.Test.YtcchjljdhjkmeaaStab2
import Derived.BigQuiet
namespace Go.Proofs.Ytcchjljdhjkmeaa
open Go.RowKit
set_option linter.unusedVariables false
set_option linter.unusedSimpArgs false
set_option maxRecDepth 100000

theorem srt_cmp (x y : Rt) (w : World) :
    Calls Try.prog 40 #[.agg #[.int .u64 (x.1.1.1 : Int), .int .u64 (x.1.1.2 : Int), .int .i64 x.1.2, .int .i64 x.2], .agg #[.int .u64 (y.1.1.1 : Int), .int .u64 (y.1.1.2 : Int), .int .i64 y.1.2, .int .i64 y.2]] w fun e w' => e = .returned (.int .i64 (x.1.cmp y.1)) ∧ Below w.heap.size w w' := by
  obtain ⟨⟨⟨x1, x2⟩, x3⟩, x4⟩ := x
  obtain ⟨⟨⟨y1, y2⟩, y3⟩, y4⟩ := y
  have c1 := hid (fun w => addr_compare ((x1, x2), x3) ((y1, y2), y3) w)
  have hb := (Below.refl w.heap.size w).alloc (Nat.le_refl _) (.cells #[.int .u64 (x1 : Int), .int .u64 (x2 : Int), .int .i64 x3, .int .i64 x4] 39)
  have hb2 := hid (hb.alloc hb.size (.cells #[.int .u64 (y1 : Int), .int .u64 (y2 : Int), .int .i64 y3, .int .i64 y4] 39))
  have HS2 := hb2.out.size
  clear hb
  generalize Pf.cmp ((x1, x2), x3) ((y1, y2), y3) = C at *
  go_enter Try.func40, Try.ntmps40
  go_wp2_with fail
  refine (c1.out _).mono ?_
  rintro _ w2 ⟨rfl, hb⟩
  have HB := hid (hb2.out.trans (hb.mono hb2.out.size))
  clear hb
  go_wp2_with fail
  go_ret
  exact ⟨rfl, HB.out⟩
theorem srt_cmpn (x y : Rt) : x.1.cmp y.1 < 0 ↔ x.1.lt y.1 := cmp_lt x.1 y.1

/-! ### One row, each put into its place -/
structure InSt (g : Nat) (Z : List Value) (A S B : List Tg) (i : Nat) (w0 wr : World) (U : List Tg) : Prop where
  len : A.length + U.length = i
  u0 : 0 < U.length
  ul : U.length ≤ S.length
  p : U.Perm (S.take U.length)
  s : U.Pairwise tl
  r : RowT wr g (A ++ U ++ S.drop U.length ++ B) Z
  c : Chg (· = g) w0 wr
def InRel (g : Nat) (Z : List Value) (A S B : List Tg) (w0 : World) (iv : Value) (wr : World) : Prop := ∃ (i : Nat) (U : List Tg), iv = .int .i64 i ∧ InSt g Z A S B i w0 wr U
structure InIn (g : Nat) (Z : List Value) (A R U0 : List Tg) (x : Tg) (j : Nat) (w0 wr : World) (P Q : List Tg) : Prop where
  j : A.length + P.length = j
  pq : U0 = P ++ Q
  q : ∀ y ∈ Q, tl x y
  r : RowT wr g (A ++ P ++ x :: (Q ++ R)) Z
  c : Chg (· = g) w0 wr
def InInRel (g : Nat) (Z : List Value) (A R U0 : List Tg) (x : Tg) (w0 : World) (jv : Value) (wr : World) : Prop := ∃ (j : Nat) (P Q : List Tg), jv = .int .i64 j ∧ InIn g Z A R U0 x j w0 wr P Q
theorem ins_sorted {P Q : List Tg} {x : Tg} (h : (P ++ Q).Pairwise tl) (hq : ∀ y ∈ Q, tl x y) (hp : ∀ z, P[P.length - 1]? = some z → tl z x) : (P ++ x :: Q).Pairwise tl := by
  obtain ⟨p1, p2, p3⟩ := List.pairwise_append.1 h
  rw [List.pairwise_append, List.pairwise_cons]
  refine ⟨p1, ⟨hq, p2⟩, fun a ha b hb => ?_⟩
  rcases List.mem_cons.1 hb with rfl | hb
  · have := take_lt p1 (i := P.length) (Nat.le_refl _) (z := b) (fun z _ hz => hp z hz)
    rw [List.take_length] at this
    exact this a ha
  · exact p3 a ha b hb
theorem tl_of {z x : Tg} (h2 : z.2 < x.2) (h : ¬ x.1.1.lt z.1.1) : tl z x := by
  by_cases e : z.1.1 = x.1.1
  · exact .inr ⟨e, h2⟩
  · rcases pf_lt_total e with c | c
    · exact .inl c
    · exact absurd c h
/-- The next round of the inner loop. -/
theorem InIn.step {g : Nat} {Z : List Value} {A R U0 : List Tg} {x y : Tg} {j p : Nat} {w0 wr : World} {P' Q : List Tg} (h : InIn g Z A R U0 x j w0 wr (P' ++ [y]) Q) (hp : j = p + 1) (hl : x.1.1.lt y.1.1) {w1 : World} (hb : Below wr.heap.size wr w1) :
    RowT w1 g (A ++ (P' ++ [y]) ++ x :: (Q ++ R)) Z ∧ (A ++ (P' ++ [y]) ++ x :: (Q ++ R))[j]? = some x ∧ (A ++ (P' ++ [y]) ++ x :: (Q ++ R))[p]? = some y ∧ InIn g Z A R U0 x p w0 (st4 (st4 w1 g j y.1) g p x.1).drew P' (y :: Q) := by
  have hj := h.j
  simp only [List.length_append, List.length_singleton] at hj
  have e1 : (A ++ (P' ++ [y]) ++ x :: (Q ++ R))[j]? = some x := at_pre (by simp; omega)
  have q2 : A ++ (P' ++ [y]) ++ x :: (Q ++ R) = (A ++ P') ++ y :: x :: (Q ++ R) := by simp
  have e2 : (A ++ (P' ++ [y]) ++ x :: (Q ++ R))[p]? = some y := by rw [q2]; exact at_pre (by simp; omega)
  refine ⟨h.r.below hb, e1, e2, ⟨by omega, by rw [h.pq]; simp, fun z hz => ?_, ?_, ?_⟩⟩
  · rcases List.mem_cons.1 hz with rfl | hz
    · exact .inl hl
    · exact h.q z hz
  · have h1 := (h.r.below hb).swap e1 e2
    rw [set_mid (by simp; omega)] at h1
    have q3 : A ++ (P' ++ [y]) ++ y :: (Q ++ R) = (A ++ P') ++ y :: y :: (Q ++ R) := by simp
    rw [q3, set_mid (by simp; omega)] at h1
    exact Blk.drew h1
  · exact (((h.c.trans' (Chg.of_below hb _)).trans' (st4_chg _ _ _ _)).trans' (st4_chg _ _ _ _)).drew

set_option maxHeartbeats 2000000 in
theorem st_ins0 (w : World) (g cap n a : Nat) (hc : n ≤ cap) (hcm : cap ≤ maxLen) (ha : a ≤ n) (ham : a ≤ 4000000000000000000) :
    Calls Try.prog 68 #[.slice (some ⟨g, 0, none⟩) n cap, .int .i64 (a : Int), .int .i64 (a : Int), .func (.func 40) #[] #[]] w fun e w' => e = .returned (.tuple #[]) ∧ w = w' := by
  unfold maxLen at hcm
  go_enter Try.func68, Try.ntmps68
  go_wp2_with fail
  go_loopw [8] (fun iv wr => iv = .int .i64 ((a + 1 : Nat) : Int) ∧ wr = w) (fun _ _ => 0)
  case atStart => exact ⟨by go_num, rfl⟩
  case round =>
    obtain ⟨rfl, rfl⟩ := hrel
    have h1 : ¬ ((a + 1 : Nat) : Int) < (a : Int) := by omega
    go_wp2_with fail
    go_returns
    exact ⟨rfl, rfl⟩
set_option maxHeartbeats 2000000 in
theorem st_ins {w : World} {g cap n a b : Nat} {A S B : List Tg} {Z : List Value} (H : RowT w g (A ++ S ++ B) Z) (hn : A.length + S.length + B.length = n) (ha : A.length = a) (hb : A.length + S.length = b) (h0 : 0 < S.length) (hS : S.Pairwise (fun x y => x.2 < y.2)) (hc : n ≤ cap) (hcm : cap ≤ maxLen) :
    Calls Try.prog 68 #[.slice (some ⟨g, 0, none⟩) n cap, .int .i64 (a : Int), .int .i64 (b : Int), .func (.func 40) #[] #[]] w fun e w' =>
      e = .returned (.tuple #[]) ∧ ∃ U : List Tg, U.Perm S ∧ U.Pairwise tl ∧ RowT w' g (A ++ U ++ B) Z ∧ Chg (· = g) w w' := by
  unfold maxLen at hcm
  have HS0 := hid (show InSt g Z A S B (a + 1) w w (S.take 1) from ⟨by rw [List.length_take, ha]; omega, by rw [List.length_take]; omega, by rw [List.length_take]; omega, by rw [List.length_take, Nat.min_eq_left (by omega)], (Good.all (k := 1) (fun p q x y hpq hx hy => by have h1 := (List.getElem?_eq_some_iff.1 hy).1; rw [List.length_take] at h1; omega) (by rw [List.length_take]; omega)), by rw [List.length_take, Nat.min_eq_left (by omega), List.append_assoc A, List.take_append_drop]; exact H, Chg.refl _ _⟩)
  have HN := hid hn
  have HA := hid ha
  have HB := hid hb
  have HSS := hid hS
  have hbn : b ≤ n := by omega
  have hbi : (b : Int) ≤ n := by omega
  have hab : a < b := by omega
  clear H hn ha hb hS
  go_enter Try.func68, Try.ntmps68
  go_wp2_with fail
  go_loopw [8] (fun iv wr => InRel g Z A S B w iv wr) (fun iv _ => b - (intOf iv).toNat)
  case atStart => exact ⟨a + 1, _, by go_num, HS0.out⟩
  case round =>
    obtain ⟨i, U, rfl, hI⟩ := hrel
    have HI := hid hI
    clear HS0
    have hli := hI.len
    have hlu := hI.ul
    have hAo := HA.out
    have hBo := HB.out
    by_cases hib : i < b
    · obtain ⟨x, hx⟩ : ∃ x, S[U.length]? = some x := ⟨_, List.getElem?_eq_getElem (by omega)⟩
      obtain ⟨R, hR⟩ : ∃ R, S.drop (U.length + 1) ++ B = R := ⟨_, rfl⟩
      have hdx : S.drop U.length = x :: S.drop (U.length + 1) := by
        obtain ⟨h1, h2⟩ := List.getElem?_eq_some_iff.1 hx
        rw [List.drop_eq_getElem_cons h1, h2]
      have HIN := hid (show InIn g Z A R U x i w wr U [] from ⟨hli, by simp, by simp, by have := hI.r; rw [hdx] at this; rw [← hR]; simpa using this, hI.c⟩)
      have HTG := hid (show ∀ z ∈ U, z.2 < x.2 from fun z hz => by
        have h1 := hI.p.mem_iff.1 hz
        obtain ⟨k, hk⟩ := List.getElem?_of_mem h1
        rw [List.getElem?_take] at hk
        split at hk
        · rename_i hki
          obtain ⟨h1, h2⟩ := List.getElem?_eq_some_iff.1 hk
          obtain ⟨h3, h4⟩ := List.getElem?_eq_some_iff.1 hx
          have := List.pairwise_iff_getElem.1 HSS.out k U.length h1 h3 hki
          rw [h2, h4] at this
          exact this
        · cases hk)
      have HNX := hid (show ∀ (w1 : World) (P Q : List Tg), U = P ++ Q → (P ++ x :: Q).Pairwise tl → RowT w1 g (A ++ P ++ x :: (Q ++ R)) Z → Chg (· = g) w w1 → InSt g Z A S B (i + 1) w w1 (P ++ x :: Q) from fun w1 P Q h1 h2 h3 h4 => by
        have hl : (P ++ x :: Q).length = U.length + 1 := by rw [h1]; simp; omega
        refine ⟨by rw [hl]; omega, by omega, by omega, ?_, h2, ?_, h4⟩
        · have hp : (P ++ x :: Q).Perm (U ++ [x]) := by rw [h1]; exact List.perm_middle.trans (List.perm_append_comm (l₁ := [x]))
          rw [hl, show S.take (U.length + 1) = S.take U.length ++ [x] by
            obtain ⟨h5, h6⟩ := List.getElem?_eq_some_iff.1 hx
            rw [List.take_succ_eq_append_getElem h5, h6]]
          exact hp.trans (hI.p.append_right [x])
        · rw [hl]; rw [← hR] at h3; simpa using h3)
      have HUS := hid hI.s
      have hi0 : (0 : Int) ≤ (i : Int) := by omega
      have hib' : (i : Int) < (b : Int) := by omega
      clear hI hli hlu hx hR hdx hAo hBo
      go_wp2_with fail
      go_loopw [9] (fun jv w' => InInRel g Z A R U x w jv w') (fun jv _ => (intOf jv).toNat)
      case atStart => exact ⟨i, U, [], rfl, HIN.out⟩
      case round =>
        obtain ⟨j, P, Q, rfl, hJ⟩ := hrel
        clear HIN
        have hjj := hJ.j
        rcases List.eq_nil_or_concat P with hP | ⟨P', y, hP⟩
        · subst hP
          have hja : j = a := by have := HA.out; simp at hjj; omega
          have HFIN := hid (fun (w6 : World) (hb : Below wr.heap.size wr w6) => HNX.out w6 [] Q hJ.pq (ins_sorted (by rw [← hJ.pq]; exact HUS.out) hJ.q (fun z hz => by simp at hz)) (hJ.r.below hb) (hJ.c.trans' (Chg.of_below hb _)))
          subst hja
          clear hJ hjj
          go_wp2_with fail
          refine wp_region_later (fun w' => True) (fun z => trivial) (by kernel_rfl) (by kernel_rfl) (fun HS => ?_)
          repeat (go_big_quiet_step (fail))
          refine wpQuiet_nil ?_
          rintro w6 ⟨⟨_, hb6⟩, rfl⟩
          have HF6 := hid (HFIN.out w6 hb6)
          clear hb6 HFIN HS
          go_wp2_with fail
          go_roundw
          case rel => exact ⟨i + 1, _, by go_num, HF6.out⟩
          case measure => simp [intOf]; omega
        · rw [List.concat_eq_append] at hP
          subst hP
          obtain ⟨p, hp⟩ : ∃ p, j = p + 1 := ⟨j - 1, by simp at hjj; omega⟩
          have HST := hid (fun (w6 : World) (hb : Below wr.heap.size wr w6) (hl : x.1.1.lt y.1.1) => hJ.step hp hl hb)
          have HFIN := hid (fun (hl : ¬ x.1.1.lt y.1.1) (w6 : World) (hb : Below wr.heap.size wr w6) => HNX.out w6 (P' ++ [y]) Q hJ.pq (ins_sorted (by rw [← hJ.pq]; exact HUS.out) hJ.q (fun z hz => by
            have e : z = y := by simp at hz; exact hz.symm
            subst e
            exact tl_of (HTG.out z (by rw [hJ.pq]; simp)) hl)) (hJ.r.below hb) (hJ.c.trans' (Chg.of_below hb _)))
          have hA1 := HA.out
          have hN1 := HN.out
          have hB1 := HB.out
          have hpa : a ≤ p := by simp at hjj; omega
          have hx1 : (A ++ (P' ++ [y]) ++ x :: (Q ++ R))[j]? = some x := at_pre (by simp at hjj ⊢; omega)
          have hy1 : (A ++ (P' ++ [y]) ++ x :: (Q ++ R))[p]? = some y := by
            have q2 : A ++ (P' ++ [y]) ++ x :: (Q ++ R) = (A ++ P') ++ y :: x :: (Q ++ R) := by simp
            rw [q2]; exact at_pre (by simp at hjj ⊢; omega)
          obtain ⟨c0, c1, c2, c3⟩ := hJ.r.cells hx1
          obtain ⟨d0, d1, d2, d3⟩ := hJ.r.cells hy1
          have hjn : j < n := by
            have h1 := congrArg List.length hJ.pq
            have h2 := HI.out.len
            have h3 := HI.out.ul
            simp at hjj h1
            omega
          have cb := hid (fun w => srt_cmp x.1 y.1 w)
          obtain ⟨z, hz⟩ : ∃ z, x.1.1.cmp y.1.1 = z := ⟨_, rfl⟩
          have hzl := srt_cmpn x.1 y.1
          rw [hz] at cb hzl
          have HZL := hid hzl
          have HY := hid (And.intro c0 (And.intro c1 (And.intro c2 (And.intro c3 (And.intro d0 (And.intro d1 (And.intro d2 d3)))))))
          have e1 : (j : Int) - 1 = (p : Int) := by omega
          have e2 : IntKind.i64.wrap ((j : Int) - 1) = (p : Int) := by rw [IntKind.wrap_i64]; omega
          have j0 : (0 : Int) ≤ (j : Int) := by omega
          have j1 : (j : Int) < (n : Int) := by omega
          have p0 : (0 : Int) ≤ (p : Int) := by omega
          have p1 : (p : Int) < (n : Int) := by omega
          have ja : (a : Int) < (j : Int) := by omega
          have hpj : p < j := by omega
          obtain ⟨⟨⟨⟨x1, x2⟩, x3⟩, x4⟩, x5⟩ := x
          obtain ⟨⟨⟨⟨y1, y2⟩, y3⟩, y4⟩, y5⟩ := y
          simp only at c0 c1 c2 c3 d0 d1 d2 d3 cb HY HZL HST HFIN
          clear hJ hjj hA1 hN1 hB1 hx1 hy1 hz hzl hpa hp hjn
          by_cases hneg : z < 0
          · have hl := HZL.out.1 hneg
            have HL := hid hl
            clear hl
            go_wp2_with fail
            refine wp_region_later (fun w' => w'.cell? ⟨g, j * 4, none⟩ = some (.int .u64 (x1 : Int)) ∧ w'.cell? ⟨g, j * 4 + 1, none⟩ = some (.int .u64 (x2 : Int)) ∧ w'.cell? ⟨g, j * 4 + 2, none⟩ = some (.int .i64 x3) ∧ w'.cell? ⟨g, j * 4 + 3, none⟩ = some (.int .i64 x4) ∧ w'.cell? ⟨g, p * 4, none⟩ = some (.int .u64 (y1 : Int)) ∧ w'.cell? ⟨g, p * 4 + 1, none⟩ = some (.int .u64 (y2 : Int)) ∧ w'.cell? ⟨g, p * 4 + 2, none⟩ = some (.int .i64 y3) ∧ w'.cell? ⟨g, p * 4 + 3, none⟩ = some (.int .i64 y4))
              (fun z => ⟨z.cell HY.out.1, z.cell HY.out.2.1, z.cell HY.out.2.2.1, z.cell HY.out.2.2.2.1, z.cell HY.out.2.2.2.2.1, z.cell HY.out.2.2.2.2.2.1, z.cell HY.out.2.2.2.2.2.2.1, z.cell HY.out.2.2.2.2.2.2.2⟩) (by kernel_rfl) (by kernel_rfl) (fun HS => ?_)
            repeat (go_big_quiet_step (with_reducible exact Later.calls _ (cb.out _)))
            refine wpQuiet_nil ?_
            rintro w6 ⟨⟨_, hb6⟩, rfl⟩
            obtain ⟨r6, hx6, hy6, hin6⟩ := HST.out w6 hb6 HL.out
            have HIN6 := hid hin6
            obtain ⟨c0, c1, c2, c3⟩ := r6.cells hx6
            obtain ⟨d0, d1, d2, d3⟩ := r6.cells hy6
            have f0 := r6.frozen (j * 4)
            have f1 := r6.frozen (j * 4 + 1)
            have f2 := r6.frozen (j * 4 + 2)
            have f3 := r6.frozen (j * 4 + 3)
            have g0 := r6.frozen (p * 4)
            have g1 := r6.frozen (p * 4 + 1)
            have g2 := r6.frozen (p * 4 + 2)
            have g3 := r6.frozen (p * 4 + 3)
            have n1 : ¬ j = p := by omega
            have n2 : ¬ p = j := by omega
            simp only at c0 c1 c2 c3 d0 d1 d2 d3
            clear HS HFIN HST cb r6 hx6 hy6 hin6 hb6 HY
            go_wp2_with fail
            go_region
            clear c0 c1 c2 c3 d0 d1 d2 d3 f0 f1 f2 f3 g0 g1 g2 g3 n1 n2
            go_wp2_with fail
            go_roundw
            case rel => exact ⟨p, P', _, by go_num, HIN6.out⟩
            case measure => simp [intOf]; omega
          · have hl : ¬ _ := fun h => hneg (HZL.out.2 h)
            have HL := hid hl
            clear hl
            go_wp2_with fail
            refine wp_region_later (fun w' => w'.cell? ⟨g, j * 4, none⟩ = some (.int .u64 (x1 : Int)) ∧ w'.cell? ⟨g, j * 4 + 1, none⟩ = some (.int .u64 (x2 : Int)) ∧ w'.cell? ⟨g, j * 4 + 2, none⟩ = some (.int .i64 x3) ∧ w'.cell? ⟨g, j * 4 + 3, none⟩ = some (.int .i64 x4) ∧ w'.cell? ⟨g, p * 4, none⟩ = some (.int .u64 (y1 : Int)) ∧ w'.cell? ⟨g, p * 4 + 1, none⟩ = some (.int .u64 (y2 : Int)) ∧ w'.cell? ⟨g, p * 4 + 2, none⟩ = some (.int .i64 y3) ∧ w'.cell? ⟨g, p * 4 + 3, none⟩ = some (.int .i64 y4))
              (fun z => ⟨z.cell HY.out.1, z.cell HY.out.2.1, z.cell HY.out.2.2.1, z.cell HY.out.2.2.2.1, z.cell HY.out.2.2.2.2.1, z.cell HY.out.2.2.2.2.2.1, z.cell HY.out.2.2.2.2.2.2.1, z.cell HY.out.2.2.2.2.2.2.2⟩) (by kernel_rfl) (by kernel_rfl) (fun HS => ?_)
            repeat (go_big_quiet_step (with_reducible exact Later.calls _ (cb.out _)))
            refine wpQuiet_nil ?_
            rintro w6 ⟨⟨_, hb6⟩, rfl⟩
            have HF6 := hid (HFIN.out HL.out w6 hb6)
            clear HS HFIN HST cb hb6 HY c0 c1 c2 c3 d0 d1 d2 d3 e1 e2 j0 j1 p0 p1 ja hpj
            go_wp2_with fail
            go_roundw
            case rel => exact ⟨i + 1, _, by go_num, HF6.out⟩
            case measure => simp [intOf]; omega
    · have hib' : i = b := by
        have h1 := hlu
        omega
      have hUS : U.length = S.length := by omega
      have HFIN := hid (show U.Perm S ∧ U.Pairwise tl ∧ RowT wr g (A ++ U ++ B) Z ∧ Chg (· = g) w wr from ⟨by have := hI.p; rw [hUS, List.take_length] at this; exact this, hI.s, by have := hI.r; rw [hUS, List.drop_length] at this; simpa using this, hI.c⟩)
      subst hib'
      clear hI hli hlu hAo hBo hUS
      go_wp2_with fail
      go_returns
      exact ⟨rfl, U, HFIN.out⟩

end Go.Proofs.Ytcchjljdhjkmeaa
