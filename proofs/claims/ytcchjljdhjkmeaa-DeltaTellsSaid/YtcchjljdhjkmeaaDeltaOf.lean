/-
  The contract of delta.Of: what turns between two rows of routes. No condition but that there are no more than a million of each.
-/
import Derived.Test.YtcchjljdhjkmeaaDeltaM
import Derived.Test.YtcchjljdhjkmeaaWalkSorted
import Derived.Test.YtcchjljdhjkmeaaOrd
import Derived.Test.YtcchjljdhjkmeaaSliceOp
namespace Go.Proofs.Ytcchjljdhjkmeaa
open Go.RowKit
set_option linter.unusedVariables false
set_option linter.unusedSimpArgs false
set_option maxRecDepth 100000
attribute [local go_sem high] slice_lo_rt slice_hi_rt

theorem dch_row : (Try.prog.info? 44).map (fun i => (i.zero, i.size, i.bytes)) = some (some (.agg #[.int .u64 0, .int .u64 0, .int .i64 0, .int .i64 0, .int .i64 0]), 5, 40) := by kernel_rfl
/-- A route's four cells. -/
def Cell4 (w : World) (b o : Nat) (x : Rt) : Prop := w.cell? ⟨b, o, none⟩ = some (.int .u64 (x.1.1.1 : Int)) ∧ w.cell? ⟨b, o + 1, none⟩ = some (.int .u64 (x.1.1.2 : Int)) ∧ w.cell? ⟨b, o + 2, none⟩ = some (.int .i64 x.1.2) ∧ w.cell? ⟨b, o + 3, none⟩ = some (.int .i64 x.2)
theorem Cell4.below {w w' : World} {b o : Nat} {x : Rt} (h : Cell4 w b o x) (hb : b < w.heap.size) (k : Below w.heap.size w w') : Cell4 w' b o x :=
  ⟨(k.cell (p := ⟨b, o, none⟩) hb).trans h.1, (k.cell (p := ⟨b, o + 1, none⟩) hb).trans h.2.1, (k.cell (p := ⟨b, o + 2, none⟩) hb).trans h.2.2.1, (k.cell (p := ⟨b, o + 3, none⟩) hb).trans h.2.2.2⟩
theorem rd_head {w : World} {A : Option Addr} {n cap : Nat} {x : Rt} {l : List Rt} (h : Rd rtEn 4 w (.slice A n cap) (x :: l)) : ∃ b o, A = some ⟨b, o, none⟩ ∧ b < w.heap.size ∧ Cell4 w b o x := by
  obtain ⟨b, o, c, hv, _, _, lb, sa⟩ := h.get rtEn_length (by decide) (k := 0) (x := x) rfl
  injection hv with h1 _ _
  exact ⟨b, o, h1, lb, by simpa using sa 0 _ rfl, by simpa using sa 1 _ rfl, by simpa using sa 2 _ rfl, by simpa using sa 3 _ rfl⟩
def lenOf : Value → Nat
  | .slice _ n _ => n
  | _ => 0

structure DoSt (w2 wr : World) (A B : List Rt) (va vb vo : Value) (a b : List Rt) (D : List Ch) : Prop where
  ra : Rd rtEn 4 w2 va a
  rb : Rd rtEn 4 w2 vb b
  ro : Owns wr w2.heap.size 44 5 vo D.length (chsV D)
  bl : Below w2.heap.size w2 wr
  eq : mergeD A B = D ++ mergeD a b
  len : D.length + a.length + b.length ≤ A.length + B.length
def DoRel (w2 : World) (A B : List Rt) (va vb vo : Value) (wr : World) : Prop := ∃ (a b : List Rt) (D : List Ch), DoSt w2 wr A B va vb vo a b D
section
variable {w2 wr w8 : World} {A B a b : List Rt} {vo v8 : Value} {Aa Ab : Option Addr} {ca cb na nb nd : Nat} {D : List Ch} {x y : Rt}
theorem DoSt.takeL {vb : Value} {c : Ch} (h : DoSt w2 wr A B (.slice Aa na ca) vb vo (x :: a) b D) (hd : D.length = nd) (hc : mergeD (x :: a) b = c :: mergeD a b) (hO : Owns w8 w2.heap.size 44 5 v8 (nd + [c].length) (chsV D ++ [c].flatMap chgEn)) (hB : Below w2.heap.size w2 w8) :
    DoSt w2 w8 A B (.slice (dropA Aa ca 1 4) (na - 1) (ca - 1)) vb v8 a b (D ++ [c]) :=
  ⟨by have := h.ra.dropA 1 (by simp); simpa using this, h.rb, by rw [List.length_append, hd, chsV, List.flatMap_append]; exact hO, hB, by rw [h.eq, hc]; simp, by have := h.len; simp at this ⊢; omega⟩
theorem DoSt.takeR {va : Value} {c : Ch} (h : DoSt w2 wr A B va (.slice Ab nb cb) vo a (y :: b) D) (hd : D.length = nd) (hc : mergeD a (y :: b) = c :: mergeD a b) (hO : Owns w8 w2.heap.size 44 5 v8 (nd + [c].length) (chsV D ++ [c].flatMap chgEn)) (hB : Below w2.heap.size w2 w8) :
    DoSt w2 w8 A B va (.slice (dropA Ab cb 1 4) (nb - 1) (cb - 1)) v8 a b (D ++ [c]) :=
  ⟨h.ra, by have := h.rb.dropA 1 (by simp); simpa using this, by rw [List.length_append, hd, chsV, List.flatMap_append]; exact hO, hB, by rw [h.eq, hc]; simp, by have := h.len; simp at this ⊢; omega⟩
theorem DoSt.takeB {c : Ch} (h : DoSt w2 wr A B (.slice Aa na ca) (.slice Ab nb cb) vo (x :: a) (y :: b) D) (hd : D.length = nd) (hc : mergeD (x :: a) (y :: b) = c :: mergeD a b) (hO : Owns w8 w2.heap.size 44 5 v8 (nd + [c].length) (chsV D ++ [c].flatMap chgEn)) (hB : Below w2.heap.size w2 w8) :
    DoSt w2 w8 A B (.slice (dropA Aa ca 1 4) (na - 1) (ca - 1)) (.slice (dropA Ab cb 1 4) (nb - 1) (cb - 1)) v8 a b (D ++ [c]) :=
  ⟨by have := h.ra.dropA 1 (by simp); simpa using this, by have := h.rb.dropA 1 (by simp); simpa using this, by rw [List.length_append, hd, chsV, List.flatMap_append]; exact hO, hB, by rw [h.eq, hc]; simp, by have := h.len; simp at this ⊢; omega⟩
theorem DoSt.skipB {vo' : Value} (h : DoSt w2 wr A B (.slice Aa na ca) (.slice Ab nb cb) vo (x :: a) (y :: b) D) (hc : mergeD (x :: a) (y :: b) = mergeD a b) (hO : Owns w8 w2.heap.size 44 5 vo D.length (chsV D)) (hB : Below w2.heap.size w2 w8) :
    DoSt w2 w8 A B (.slice (dropA Aa ca 1 4) (na - 1) (ca - 1)) (.slice (dropA Ab cb 1 4) (nb - 1) (cb - 1)) vo a b D :=
  ⟨by have := h.ra.dropA 1 (by simp); simpa using this, by have := h.rb.dropA 1 (by simp); simpa using this, hO, hB, by rw [h.eq, hc], by have := h.len; simp at this ⊢; omega⟩
end
def RetChs (w : World) (l : List Ch) (e : Ending) (w' : World) : Prop := ∃ v, e = .returned v ∧ Owns w' w.heap.size 44 5 v l.length (chsV l) ∧ Below w.heap.size w w'

set_option maxHeartbeats 4000000 in
theorem delta_of (w : World) (v1 v2 : Value) (l1 l2 : List Rt) (R1 : Rd rtEn 4 w v1 l1) (R2 : Rd rtEn 4 w v2 l2) (h1 : l1.length ≤ 1000000) (h2 : l2.length ≤ 1000000) :
    Calls Try.prog 19 #[v1, v2] w (RetChs w (mergeD (sortedL l1) (sortedL l2))) := by
  have c1 := hid (walk_sorted w v1 l1 R1 h1)
  have c2 := hid (fun (w' : World) (h : Below w.heap.size w w') => walk_sorted w' v2 l2 (R2.below rtEn_length h) h2)
  have HL := hid (show (sortedL l1).length + (sortedL l2).length ≤ 2000000 from by have := sorted_le l1; have := sorted_le l2; omega)
  generalize sortedL l1 = A at c1 HL ⊢
  generalize sortedL l2 = B at c2 HL ⊢
  clear R1 R2 h1 h2
  go_enter Try.func19, Try.ntmps19
  go_wp2_with fail
  refine c1.out.mono ?_
  rintro _ w1 ⟨u1, rfl, hO1, hb1⟩
  have HB1 := hid hb1
  have HR1 := hid hO1.rd
  clear hb1 hO1 c1
  go_wp2_with fail
  refine (c2.out _ HB1.out).mono ?_
  rintro _ w2 ⟨u2, rfl, hO2, hb2⟩
  have HB2 := hid (held_next HB1.out hb2)
  have H0 := hid (show DoSt w2 w2 A B u1 u2 (.slice none 0 0) A B [] from ⟨HR1.out.below rtEn_length hb2, hO2.rd, Owns.nil _ _ _ _, Below.refl _ _, rfl, by simp⟩)
  clear hO2 hb2 c2 HR1 HB1
  go_wp2_with fail
  go_loopw [0, 1, 5] (fun va vb vo wr => DoRel w2 A B va vb vo wr) (fun va vb _ _ => lenOf va + lenOf vb)
  case atStart => exact ⟨_, _, _, H0.out⟩
  case round =>
    obtain ⟨a, b, D, hS⟩ := hrel
    clear H0
    obtain ⟨Aa, ca, rfl, a1, a2⟩ := hS.ra.form
    obtain ⟨Ab, cb, rfl, b1, b2⟩ := hS.rb.form
    obtain ⟨Ao, co, rfl, o1, o2⟩ := (Rd.of_owns (l := D) hS.ro chgEn_len).form
    obtain ⟨nd, hnd⟩ : ∃ n, D.length = n := ⟨_, rfl⟩
    obtain ⟨na, hna⟩ : ∃ n, a.length = n := ⟨_, rfl⟩
    obtain ⟨nb, hnb⟩ : ∃ n, b.length = n := ⟨_, rfl⟩
    have hlen := hS.len
    have hL := HL.out
    have hB := hS.bl
    have hO := hS.ro
    have hra := hS.ra
    have hrb := hS.rb
    rw [hnd, hna, hnb] at hlen
    rw [hnd] at hS hO o1 ⊢
    rw [hna] at hS hra a1 ⊢
    rw [hnb] at hS hrb b1 ⊢
    unfold maxLen at a2 b2 o2
    have HST := hid hS
    have HB0 := hid hB
    have HO0 := hid hO
    have HND := hid hnd
    have n1 : (na : Int) + (nb : Int) ≤ 2000000 := by omega
    have n2 : nd ≤ 2000000 := by omega
    have hw : IntKind.i64.wrap ((na : Int) + (nb : Int)) = (na : Int) + (nb : Int) := by rw [IntKind.wrap_i64]; omega
    clear hS hB hO hlen hL
    cases a with
    | nil =>
      cases b with
      | nil =>
        obtain rfl : na = 0 := by simpa using hna.symm
        obtain rfl : nb = 0 := by simpa using hnb.symm
        have HF := hid (show RetChs w (mergeD A B) (.returned (.slice Ao nd co)) wr from by
          have he := HST.out.eq
          rw [mergeD_nil, List.append_nil] at he
          rw [he]
          exact ⟨_, rfl, by rw [HND.out]; exact HO0.out.lower HB2.out.size, HB2.out.trans (HB0.out.mono HB2.out.size)⟩)
        clear hra hrb hna hnb
        go_wp2_with fail
        go_ret
        exact HF.out
      | cons y b =>
        obtain rfl : na = 0 := by simpa using hna.symm
        obtain ⟨bb, ob, hAb, lb, sb⟩ := rd_head hrb
        subst hAb
        obtain ⟨⟨⟨y1, y2⟩, y3⟩, y4⟩ := y
        have HYC := hid (fun (w' : World) (h : Below w2.heap.size w2 w') => sb.below lb h)
        have bp : 0 < nb := by rw [← hnb]; simp
        have bp1 : (0 : Int) < (nb : Int) := by omega
        have bp2 : ¬ (nb : Int) = 0 := by omega
        have bp3 : ((nb : Int) == 0) = false := by rw [beq_eq_false_iff_ne]; exact bp2
        have bp4 : (1 : Int) ≤ (nb : Int) := by omega
        have bp5 : decide (0 < (nb : Int)) = true := decide_eq_true bp1
        clear sb lb
        have hs0 : (0 : Int) < ((0 : Nat) : Int) + (nb : Int) := by omega
        have HNB := hid bp
        have HE := hid (mergeD_r (((y1, y2), y3), y4) b)
        clear hra hrb hna hnb
        go_wp2_with fail
        have hS : (wr.drew.cell? ⟨bb, ob, none⟩ = some (.int .u64 (y1 : Int)) ∧ wr.drew.cell? ⟨bb, ob + 1, none⟩ = some (.int .u64 (y2 : Int)) ∧ wr.drew.cell? ⟨bb, ob + 2, none⟩ = some (.int .i64 y3) ∧ wr.drew.cell? ⟨bb, ob + 3, none⟩ = some (.int .i64 y4)) := HYC.out _ (HB0.out.drew)
        refine wp_region_ord (fun w' => (w'.cell? ⟨bb, ob, none⟩ = some (.int .u64 (y1 : Int)) ∧ w'.cell? ⟨bb, ob + 1, none⟩ = some (.int .u64 (y2 : Int)) ∧ w'.cell? ⟨bb, ob + 2, none⟩ = some (.int .i64 y3) ∧ w'.cell? ⟨bb, ob + 3, none⟩ = some (.int .i64 y4))) (by kernel_rfl) hS ?_
        refine ord_still 0 rfl (v := ?_) (by kernel_rfl) (fun _ _ _ h => h) rfl (fun W hW => ?_) hS ?_
        rotate_left
        · try dsimp only at hW
          go_simp
          try with_reducible rfl
        simp only [Act.put, List.setIfInBounds_toArray, List.set_cons_zero, List.set_cons_succ]
        refine ord_still 1 rfl (v := ?_) (by kernel_rfl) (fun _ _ _ h => h) rfl (fun W hW => ?_) hS ?_
        rotate_left
        · try dsimp only at hW
          go_simp
          try with_reducible rfl
        simp only [Act.put, List.setIfInBounds_toArray, List.set_cons_zero, List.set_cons_succ]
        refine ord_still 2 rfl (v := ?_) (by kernel_rfl) (fun _ _ _ h => h) rfl (fun W hW => ?_) hS ?_
        rotate_left
        · try dsimp only at hW
          go_simp
          try with_reducible rfl
        simp only [Act.put, List.setIfInBounds_toArray, List.set_cons_zero, List.set_cons_succ]
        refine ord_still 3 rfl (v := ?_) (by kernel_rfl) (fun _ _ _ h => h) rfl (fun W hW => ?_) hS ?_
        rotate_left
        · try dsimp only at hW
          go_simp
          try with_reducible rfl
        simp only [Act.put, List.setIfInBounds_toArray, List.set_cons_zero, List.set_cons_succ]
        refine ord_still 4 rfl (v := ?_) (by kernel_rfl) (fun _ _ _ h => h) rfl (fun W hW => ?_) hS ?_
        rotate_left
        · try dsimp only at hW
          go_simp
          try with_reducible rfl
        simp only [Act.put, List.setIfInBounds_toArray, List.set_cons_zero, List.set_cons_succ]
        refine ord_still 5 rfl (v := ?_) (by kernel_rfl) (fun _ _ _ h => h) rfl (fun W hW => ?_) hS ?_
        rotate_left
        · try dsimp only at hW
          go_simp
          try with_reducible rfl
        simp only [Act.put, List.setIfInBounds_toArray, List.set_cons_zero, List.set_cons_succ]
        refine ord_still 6 rfl (v := ?_) (by kernel_rfl) (fun _ _ _ h => h) rfl (fun W hW => ?_) hS ?_
        rotate_left
        · try dsimp only at hW
          go_simp
          try with_reducible rfl
        simp only [Act.put, List.setIfInBounds_toArray, List.set_cons_zero, List.set_cons_succ]
        refine ord_still 7 rfl (v := ?_) (by kernel_rfl) (fun _ _ _ h => h) rfl (fun W hW => ?_) hS ?_
        rotate_left
        · try dsimp only at hW
          go_simp
          try with_reducible rfl
        simp only [Act.put, List.setIfInBounds_toArray, List.set_cons_zero, List.set_cons_succ]
        refine ord_skip 8 rfl (by kernel_rfl) (fun _ _ _ h => h) rfl hS ?_
        simp only [Act.put, List.setIfInBounds_toArray, List.set_cons_zero, List.set_cons_succ]
        refine ord_skip 9 rfl (by kernel_rfl) (fun _ _ _ h => h) rfl hS ?_
        simp only [Act.put, List.setIfInBounds_toArray, List.set_cons_zero, List.set_cons_succ]
        refine ord_skip 10 rfl (by kernel_rfl) (fun _ _ _ h => h) rfl hS ?_
        simp only [Act.put, List.setIfInBounds_toArray, List.set_cons_zero, List.set_cons_succ]
        refine ord_skip 11 rfl (by kernel_rfl) (fun _ _ _ h => h) rfl hS ?_
        simp only [Act.put, List.setIfInBounds_toArray, List.set_cons_zero, List.set_cons_succ]
        refine ord_skip 12 rfl (by kernel_rfl) (fun _ _ _ h => h) rfl hS ?_
        simp only [Act.put, List.setIfInBounds_toArray, List.set_cons_zero, List.set_cons_succ]
        refine ord_skip 13 rfl (by kernel_rfl) (fun _ _ _ h => h) rfl hS ?_
        simp only [Act.put, List.setIfInBounds_toArray, List.set_cons_zero, List.set_cons_succ]
        refine ord_skip 14 rfl (by kernel_rfl) (fun _ _ _ h => h) rfl hS ?_
        simp only [Act.put, List.setIfInBounds_toArray, List.set_cons_zero, List.set_cons_succ]
        refine ord_skip 15 rfl (by kernel_rfl) (fun _ _ _ h => h) rfl hS ?_
        simp only [Act.put, List.setIfInBounds_toArray, List.set_cons_zero, List.set_cons_succ]
        refine ord_skip 16 rfl (by kernel_rfl) (fun _ _ _ h => h) rfl hS ?_
        simp only [Act.put, List.setIfInBounds_toArray, List.set_cons_zero, List.set_cons_succ]
        refine ord_still 17 rfl (v := ?_) (by kernel_rfl) (fun _ _ _ h => h) rfl (fun W hW => ?_) hS ?_
        rotate_left
        · try dsimp only at hW
          go_simp
          try with_reducible rfl
        simp only [Act.put, List.setIfInBounds_toArray, List.set_cons_zero, List.set_cons_succ]
        refine ord_still 18 rfl (v := ?_) (by kernel_rfl) (fun _ _ _ h => h) rfl (fun W hW => ?_) hS ?_
        rotate_left
        · try dsimp only at hW
          go_simp
          try with_reducible rfl
        simp only [Act.put, List.setIfInBounds_toArray, List.set_cons_zero, List.set_cons_succ]
        refine ord_still 19 rfl (v := ?_) (by kernel_rfl) (fun _ _ _ h => h) rfl (fun W hW => ?_) hS ?_
        rotate_left
        · try dsimp only at hW
          go_simp
          try with_reducible rfl
        simp only [Act.put, List.setIfInBounds_toArray, List.set_cons_zero, List.set_cons_succ]
        refine ord_done (by kernel_rfl) ?_
        clear hS
        go_wp2_with fail
        have hS : (wr.drew.drew.cell? ⟨bb, ob, none⟩ = some (.int .u64 (y1 : Int)) ∧ wr.drew.drew.cell? ⟨bb, ob + 1, none⟩ = some (.int .u64 (y2 : Int)) ∧ wr.drew.drew.cell? ⟨bb, ob + 2, none⟩ = some (.int .i64 y3) ∧ wr.drew.drew.cell? ⟨bb, ob + 3, none⟩ = some (.int .i64 y4)) := HYC.out _ (HB0.out.drew.drew)
        refine wp_region_ord (fun w' => (w'.cell? ⟨bb, ob, none⟩ = some (.int .u64 (y1 : Int)) ∧ w'.cell? ⟨bb, ob + 1, none⟩ = some (.int .u64 (y2 : Int)) ∧ w'.cell? ⟨bb, ob + 2, none⟩ = some (.int .i64 y3) ∧ w'.cell? ⟨bb, ob + 3, none⟩ = some (.int .i64 y4))) (by kernel_rfl) hS ?_
        refine ord_still 0 rfl (v := ?_) (by kernel_rfl) (fun _ _ _ h => h) rfl (fun W hW => ?_) hS ?_
        rotate_left
        · try dsimp only at hW
          go_simp
          try with_reducible rfl
        simp only [Act.put, List.setIfInBounds_toArray, List.set_cons_zero, List.set_cons_succ]
        refine ord_still 1 rfl (v := ?_) (by kernel_rfl) (fun _ _ _ h => h) rfl (fun W hW => ?_) hS ?_
        rotate_left
        · try dsimp only at hW
          go_simp
          try with_reducible rfl
        simp only [Act.put, List.setIfInBounds_toArray, List.set_cons_zero, List.set_cons_succ]
        refine ord_still 2 rfl (v := ?_) (by kernel_rfl) (fun _ _ _ h => h) rfl (fun W hW => ?_) hS ?_
        rotate_left
        · try dsimp only at hW
          go_simp
          try with_reducible rfl
        simp only [Act.put, List.setIfInBounds_toArray, List.set_cons_zero, List.set_cons_succ]
        refine ord_still 3 rfl (v := ?_) (by kernel_rfl) (fun _ _ _ h => h) rfl (fun W hW => ?_) hS ?_
        rotate_left
        · try dsimp only at hW
          go_simp
          try with_reducible rfl
        simp only [Act.put, List.setIfInBounds_toArray, List.set_cons_zero, List.set_cons_succ]
        refine ord_skip 4 rfl (by kernel_rfl) (fun _ _ _ h => h) rfl hS ?_
        simp only [Act.put, List.setIfInBounds_toArray, List.set_cons_zero, List.set_cons_succ]
        refine ord_skip 5 rfl (by kernel_rfl) (fun _ _ _ h => h) rfl hS ?_
        simp only [Act.put, List.setIfInBounds_toArray, List.set_cons_zero, List.set_cons_succ]
        refine ord_skip 6 rfl (by kernel_rfl) (fun _ _ _ h => h) rfl hS ?_
        simp only [Act.put, List.setIfInBounds_toArray, List.set_cons_zero, List.set_cons_succ]
        refine ord_skip 7 rfl (by kernel_rfl) (fun _ _ _ h => h) rfl hS ?_
        simp only [Act.put, List.setIfInBounds_toArray, List.set_cons_zero, List.set_cons_succ]
        refine ord_skip 8 rfl (by kernel_rfl) (fun _ _ _ h => h) rfl hS ?_
        simp only [Act.put, List.setIfInBounds_toArray, List.set_cons_zero, List.set_cons_succ]
        refine ord_skip 9 rfl (by kernel_rfl) (fun _ _ _ h => h) rfl hS ?_
        simp only [Act.put, List.setIfInBounds_toArray, List.set_cons_zero, List.set_cons_succ]
        refine ord_skip 10 rfl (by kernel_rfl) (fun _ _ _ h => h) rfl hS ?_
        simp only [Act.put, List.setIfInBounds_toArray, List.set_cons_zero, List.set_cons_succ]
        refine ord_skip 11 rfl (by kernel_rfl) (fun _ _ _ h => h) rfl hS ?_
        simp only [Act.put, List.setIfInBounds_toArray, List.set_cons_zero, List.set_cons_succ]
        refine ord_skip 12 rfl (by kernel_rfl) (fun _ _ _ h => h) rfl hS ?_
        simp only [Act.put, List.setIfInBounds_toArray, List.set_cons_zero, List.set_cons_succ]
        refine ord_still 13 rfl (v := ?_) (by kernel_rfl) (fun _ _ _ h => h) rfl (fun W hW => ?_) hS ?_
        rotate_left
        · try dsimp only at hW
          go_simp
          try with_reducible rfl
        simp only [Act.put, List.setIfInBounds_toArray, List.set_cons_zero, List.set_cons_succ]
        refine ord_still 14 rfl (v := ?_) (by kernel_rfl) (fun _ _ _ h => h) rfl (fun W hW => ?_) hS ?_
        rotate_left
        · try dsimp only at hW
          go_simp
          try with_reducible rfl
        simp only [Act.put, List.setIfInBounds_toArray, List.set_cons_zero, List.set_cons_succ]
        refine ord_done (by kernel_rfl) ?_
        clear hS
        go_wp2_with fail
        have hS : (wr.drew.drew.drew.cell? ⟨bb, ob, none⟩ = some (.int .u64 (y1 : Int)) ∧ wr.drew.drew.drew.cell? ⟨bb, ob + 1, none⟩ = some (.int .u64 (y2 : Int)) ∧ wr.drew.drew.drew.cell? ⟨bb, ob + 2, none⟩ = some (.int .i64 y3) ∧ wr.drew.drew.drew.cell? ⟨bb, ob + 3, none⟩ = some (.int .i64 y4)) := HYC.out _ (HB0.out.drew.drew.drew)
        refine wp_region_ord (fun w' => (w'.cell? ⟨bb, ob, none⟩ = some (.int .u64 (y1 : Int)) ∧ w'.cell? ⟨bb, ob + 1, none⟩ = some (.int .u64 (y2 : Int)) ∧ w'.cell? ⟨bb, ob + 2, none⟩ = some (.int .i64 y3) ∧ w'.cell? ⟨bb, ob + 3, none⟩ = some (.int .i64 y4))) (by kernel_rfl) hS ?_
        refine ord_still 0 rfl (v := ?_) (by kernel_rfl) (fun _ _ _ h => h) rfl (fun W hW => ?_) hS ?_
        rotate_left
        · try dsimp only at hW
          go_simp
          try with_reducible rfl
        simp only [Act.put, List.setIfInBounds_toArray, List.set_cons_zero, List.set_cons_succ]
        refine ord_still 1 rfl (v := ?_) (by kernel_rfl) (fun _ _ _ h => h) rfl (fun W hW => ?_) hS ?_
        rotate_left
        · try dsimp only at hW
          go_simp
          try with_reducible rfl
        simp only [Act.put, List.setIfInBounds_toArray, List.set_cons_zero, List.set_cons_succ]
        refine ord_still 2 rfl (v := ?_) (by kernel_rfl) (fun _ _ _ h => h) rfl (fun W hW => ?_) hS ?_
        rotate_left
        · try dsimp only at hW
          go_simp
          try with_reducible rfl
        simp only [Act.put, List.setIfInBounds_toArray, List.set_cons_zero, List.set_cons_succ]
        refine ord_still 3 rfl (v := ?_) (by kernel_rfl) (fun _ _ _ h => h) rfl (fun W hW => ?_) hS ?_
        rotate_left
        · try dsimp only at hW
          go_simp
          try with_reducible rfl
        simp only [Act.put, List.setIfInBounds_toArray, List.set_cons_zero, List.set_cons_succ]
        refine ord_still 4 rfl (v := ?_) (by kernel_rfl) (fun _ _ _ h => h) rfl (fun W hW => ?_) hS ?_
        rotate_left
        · try dsimp only at hW
          go_simp
          try with_reducible rfl
        simp only [Act.put, List.setIfInBounds_toArray, List.set_cons_zero, List.set_cons_succ]
        refine ord_still 5 rfl (v := ?_) (by kernel_rfl) (fun _ _ _ h => h) rfl (fun W hW => ?_) hS ?_
        rotate_left
        · try dsimp only at hW
          go_simp
          try with_reducible rfl
        simp only [Act.put, List.setIfInBounds_toArray, List.set_cons_zero, List.set_cons_succ]
        refine ord_still 6 rfl (v := ?_) (by kernel_rfl) (fun _ _ _ h => h) rfl (fun W hW => ?_) hS ?_
        rotate_left
        · try dsimp only at hW
          go_simp
          try with_reducible rfl
        simp only [Act.put, List.setIfInBounds_toArray, List.set_cons_zero, List.set_cons_succ]
        refine ord_still 7 rfl (v := ?_) (by kernel_rfl) (fun _ _ _ h => h) rfl (fun W hW => ?_) hS ?_
        rotate_left
        · try dsimp only at hW
          go_simp
          try with_reducible rfl
        simp only [Act.put, List.setIfInBounds_toArray, List.set_cons_zero, List.set_cons_succ]
        refine ord_still 8 rfl (v := ?_) (by kernel_rfl) (fun _ _ _ h => h) rfl (fun W hW => ?_) hS ?_
        rotate_left
        · try dsimp only at hW
          go_simp
          try with_reducible rfl
        simp only [Act.put, List.setIfInBounds_toArray, List.set_cons_zero, List.set_cons_succ]
        refine ord_still 9 rfl (v := ?_) (by kernel_rfl) (fun _ _ _ h => h) rfl (fun W hW => ?_) hS ?_
        rotate_left
        · try dsimp only at hW
          go_simp
          try with_reducible rfl
        simp only [Act.put, List.setIfInBounds_toArray, List.set_cons_zero, List.set_cons_succ]
        refine ord_alone 10 rfl (by kernel_rfl) rfl (fun K hK => ?_)
        go_simp
        have hA : Below w2.heap.size w2 (wr.drew.drew.drew.alloc (.cells #[.int .u64 (y1 : Int), .int .u64 (y2 : Int), .int .i64 y3, .int .i64 (-1), .int .i64 y4] 44)) := HB0.out.drew.drew.drew.alloc HB0.out.size _
        have hBk : Blk (wr.drew.drew.drew.alloc (.cells #[.int .u64 (y1 : Int), .int .u64 (y2 : Int), .int .i64 y3, .int .i64 (-1), .int .i64 y4] 44)) wr.drew.drew.heap.size 44 (([(((y1, y2), y3), -1, y4)] : List Ch).flatMap chgEn) := Blk.new wr.drew.drew.drew _ _
        have hOA : Owns (wr.drew.drew.drew.alloc (.cells #[.int .u64 (y1 : Int), .int .u64 (y2 : Int), .int .i64 y3, .int .i64 (-1), .int .i64 y4] 44)) w2.heap.size 44 5 (.slice Ao nd co) nd (chsV D) := Owns.below HO0.out (((Below.refl _ _).drew.drew.drew).alloc (Nat.le_refl _) _)
        have HBS := hid HB0.out.size
        clear hS
        have hS : ((wr.drew.drew.drew.alloc (.cells #[.int .u64 (y1 : Int), .int .u64 (y2 : Int), .int .i64 y3, .int .i64 (-1), .int .i64 y4] 44)).cell? ⟨bb, ob, none⟩ = some (.int .u64 (y1 : Int)) ∧ (wr.drew.drew.drew.alloc (.cells #[.int .u64 (y1 : Int), .int .u64 (y2 : Int), .int .i64 y3, .int .i64 (-1), .int .i64 y4] 44)).cell? ⟨bb, ob + 1, none⟩ = some (.int .u64 (y2 : Int)) ∧ (wr.drew.drew.drew.alloc (.cells #[.int .u64 (y1 : Int), .int .u64 (y2 : Int), .int .i64 y3, .int .i64 (-1), .int .i64 y4] 44)).cell? ⟨bb, ob + 2, none⟩ = some (.int .i64 y3) ∧ (wr.drew.drew.drew.alloc (.cells #[.int .u64 (y1 : Int), .int .u64 (y2 : Int), .int .i64 y3, .int .i64 (-1), .int .i64 y4] 44)).cell? ⟨bb, ob + 3, none⟩ = some (.int .i64 y4)) := HYC.out _ (hA)
        refine hK.out _ _ hS ?_
        clear hK
        refine ord_alone 11 rfl (by kernel_rfl) rfl (fun K hK => ?_)
        refine wp_append_rd _ _ 40 rfl 44 _ 5 40 Try.underlying40 dch_row rfl (by decide) w2.heap.size _ nd _ rfl hOA _ rfl ([(((y1, y2), y3), -1, y4)] : List Ch) (Rd.of_blk (l := ([(((y1, y2), y3), -1, y4)] : List Ch)) hBk chgEn_len (by unfold maxLen; simp)) chgEn_len cells_ch ?_ ?_ ?_ ?_
        · simp only [List.length_singleton]; unfold maxLen; omega
        · simp only [List.length_singleton]; omega
        · have := HBS.out; simp; omega
        intro v5 w5 hO hC
        have HB5 := hid (show Below w2.heap.size w2 w5 from hA.trans (hC.below (B := w2.heap.size) (by have := HBS.out; simp; omega) (fun i hi hh => by have := (Owns.base_le hOA i hh).1; omega)))
        have HO5 := hid hO
        clear hS
        have hS : (w5.cell? ⟨bb, ob, none⟩ = some (.int .u64 (y1 : Int)) ∧ w5.cell? ⟨bb, ob + 1, none⟩ = some (.int .u64 (y2 : Int)) ∧ w5.cell? ⟨bb, ob + 2, none⟩ = some (.int .i64 y3) ∧ w5.cell? ⟨bb, ob + 3, none⟩ = some (.int .i64 y4)) := HYC.out _ (HB5.out)
        clear hA hBk hOA hO hC HBS
        refine hK.out _ _ hS ?_
        clear hK
        refine ord_still 12 rfl (v := ?_) (by kernel_rfl) (fun _ _ _ h => h) rfl (fun W hW => ?_) hS ?_
        rotate_left
        · try dsimp only at hW
          go_simp
          try with_reducible rfl
        simp only [Act.put, List.setIfInBounds_toArray, List.set_cons_zero, List.set_cons_succ]
        refine ord_done (by kernel_rfl) ?_
        clear hS
        go_wp2_with fail
        go_roundw
        case rel => exact ⟨_, _, _, HST.out.takeR HND.out HE.out HO5.out HB5.out⟩
        case measure => have := HNB.out; simp [lenOf]; omega
    | cons x a =>
      cases b with
      | nil =>
        obtain rfl : nb = 0 := by simpa using hnb.symm
        obtain ⟨ba, oa, hAa, la, sa⟩ := rd_head hra
        subst hAa
        obtain ⟨⟨⟨x1, x2⟩, x3⟩, x4⟩ := x
        have HXC := hid (fun (w' : World) (h : Below w2.heap.size w2 w') => sa.below la h)
        have ap : 0 < na := by rw [← hna]; simp
        have ap1 : (0 : Int) < (na : Int) := by omega
        have ap2 : ¬ (na : Int) = 0 := by omega
        have ap3 : ((na : Int) == 0) = false := by rw [beq_eq_false_iff_ne]; exact ap2
        have ap4 : (1 : Int) ≤ (na : Int) := by omega
        have ap5 : decide (0 < (na : Int)) = true := decide_eq_true ap1
        clear sa la
        have hs0 : (0 : Int) < (na : Int) + ((0 : Nat) : Int) := by omega
        have HNA := hid ap
        have HE := hid (mergeD_l (((x1, x2), x3), x4) a)
        clear hra hrb hna hnb
        go_wp2_with fail
        have hS : (wr.drew.cell? ⟨ba, oa, none⟩ = some (.int .u64 (x1 : Int)) ∧ wr.drew.cell? ⟨ba, oa + 1, none⟩ = some (.int .u64 (x2 : Int)) ∧ wr.drew.cell? ⟨ba, oa + 2, none⟩ = some (.int .i64 x3) ∧ wr.drew.cell? ⟨ba, oa + 3, none⟩ = some (.int .i64 x4)) := HXC.out _ (HB0.out.drew)
        refine wp_region_ord (fun w' => (w'.cell? ⟨ba, oa, none⟩ = some (.int .u64 (x1 : Int)) ∧ w'.cell? ⟨ba, oa + 1, none⟩ = some (.int .u64 (x2 : Int)) ∧ w'.cell? ⟨ba, oa + 2, none⟩ = some (.int .i64 x3) ∧ w'.cell? ⟨ba, oa + 3, none⟩ = some (.int .i64 x4))) (by kernel_rfl) hS ?_
        refine ord_still 0 rfl (v := ?_) (by kernel_rfl) (fun _ _ _ h => h) rfl (fun W hW => ?_) hS ?_
        rotate_left
        · try dsimp only at hW
          go_simp
          try with_reducible rfl
        simp only [Act.put, List.setIfInBounds_toArray, List.set_cons_zero, List.set_cons_succ]
        refine ord_still 1 rfl (v := ?_) (by kernel_rfl) (fun _ _ _ h => h) rfl (fun W hW => ?_) hS ?_
        rotate_left
        · try dsimp only at hW
          go_simp
          try with_reducible rfl
        simp only [Act.put, List.setIfInBounds_toArray, List.set_cons_zero, List.set_cons_succ]
        refine ord_still 2 rfl (v := ?_) (by kernel_rfl) (fun _ _ _ h => h) rfl (fun W hW => ?_) hS ?_
        rotate_left
        · try dsimp only at hW
          go_simp
          try with_reducible rfl
        simp only [Act.put, List.setIfInBounds_toArray, List.set_cons_zero, List.set_cons_succ]
        refine ord_still 3 rfl (v := ?_) (by kernel_rfl) (fun _ _ _ h => h) rfl (fun W hW => ?_) hS ?_
        rotate_left
        · try dsimp only at hW
          go_simp
          try with_reducible rfl
        simp only [Act.put, List.setIfInBounds_toArray, List.set_cons_zero, List.set_cons_succ]
        refine ord_skip 4 rfl (by kernel_rfl) (fun _ _ _ h => h) rfl hS ?_
        simp only [Act.put, List.setIfInBounds_toArray, List.set_cons_zero, List.set_cons_succ]
        refine ord_skip 5 rfl (by kernel_rfl) (fun _ _ _ h => h) rfl hS ?_
        simp only [Act.put, List.setIfInBounds_toArray, List.set_cons_zero, List.set_cons_succ]
        refine ord_skip 6 rfl (by kernel_rfl) (fun _ _ _ h => h) rfl hS ?_
        simp only [Act.put, List.setIfInBounds_toArray, List.set_cons_zero, List.set_cons_succ]
        refine ord_skip 7 rfl (by kernel_rfl) (fun _ _ _ h => h) rfl hS ?_
        simp only [Act.put, List.setIfInBounds_toArray, List.set_cons_zero, List.set_cons_succ]
        refine ord_skip 8 rfl (by kernel_rfl) (fun _ _ _ h => h) rfl hS ?_
        simp only [Act.put, List.setIfInBounds_toArray, List.set_cons_zero, List.set_cons_succ]
        refine ord_skip 9 rfl (by kernel_rfl) (fun _ _ _ h => h) rfl hS ?_
        simp only [Act.put, List.setIfInBounds_toArray, List.set_cons_zero, List.set_cons_succ]
        refine ord_skip 10 rfl (by kernel_rfl) (fun _ _ _ h => h) rfl hS ?_
        simp only [Act.put, List.setIfInBounds_toArray, List.set_cons_zero, List.set_cons_succ]
        refine ord_skip 11 rfl (by kernel_rfl) (fun _ _ _ h => h) rfl hS ?_
        simp only [Act.put, List.setIfInBounds_toArray, List.set_cons_zero, List.set_cons_succ]
        refine ord_skip 12 rfl (by kernel_rfl) (fun _ _ _ h => h) rfl hS ?_
        simp only [Act.put, List.setIfInBounds_toArray, List.set_cons_zero, List.set_cons_succ]
        refine ord_skip 13 rfl (by kernel_rfl) (fun _ _ _ h => h) rfl hS ?_
        simp only [Act.put, List.setIfInBounds_toArray, List.set_cons_zero, List.set_cons_succ]
        refine ord_skip 14 rfl (by kernel_rfl) (fun _ _ _ h => h) rfl hS ?_
        simp only [Act.put, List.setIfInBounds_toArray, List.set_cons_zero, List.set_cons_succ]
        refine ord_skip 15 rfl (by kernel_rfl) (fun _ _ _ h => h) rfl hS ?_
        simp only [Act.put, List.setIfInBounds_toArray, List.set_cons_zero, List.set_cons_succ]
        refine ord_skip 16 rfl (by kernel_rfl) (fun _ _ _ h => h) rfl hS ?_
        simp only [Act.put, List.setIfInBounds_toArray, List.set_cons_zero, List.set_cons_succ]
        refine ord_skip 17 rfl (by kernel_rfl) (fun _ _ _ h => h) rfl hS ?_
        simp only [Act.put, List.setIfInBounds_toArray, List.set_cons_zero, List.set_cons_succ]
        refine ord_still 18 rfl (v := ?_) (by kernel_rfl) (fun _ _ _ h => h) rfl (fun W hW => ?_) hS ?_
        rotate_left
        · try dsimp only at hW
          go_simp
          try with_reducible rfl
        simp only [Act.put, List.setIfInBounds_toArray, List.set_cons_zero, List.set_cons_succ]
        refine ord_still 19 rfl (v := ?_) (by kernel_rfl) (fun _ _ _ h => h) rfl (fun W hW => ?_) hS ?_
        rotate_left
        · try dsimp only at hW
          go_simp
          try with_reducible rfl
        simp only [Act.put, List.setIfInBounds_toArray, List.set_cons_zero, List.set_cons_succ]
        refine ord_done (by kernel_rfl) ?_
        clear hS
        go_wp2_with fail
        have hS : (wr.drew.drew.cell? ⟨ba, oa, none⟩ = some (.int .u64 (x1 : Int)) ∧ wr.drew.drew.cell? ⟨ba, oa + 1, none⟩ = some (.int .u64 (x2 : Int)) ∧ wr.drew.drew.cell? ⟨ba, oa + 2, none⟩ = some (.int .i64 x3) ∧ wr.drew.drew.cell? ⟨ba, oa + 3, none⟩ = some (.int .i64 x4)) := HXC.out _ (HB0.out.drew.drew)
        refine wp_region_ord (fun w' => (w'.cell? ⟨ba, oa, none⟩ = some (.int .u64 (x1 : Int)) ∧ w'.cell? ⟨ba, oa + 1, none⟩ = some (.int .u64 (x2 : Int)) ∧ w'.cell? ⟨ba, oa + 2, none⟩ = some (.int .i64 x3) ∧ w'.cell? ⟨ba, oa + 3, none⟩ = some (.int .i64 x4))) (by kernel_rfl) hS ?_
        refine ord_still 0 rfl (v := ?_) (by kernel_rfl) (fun _ _ _ h => h) rfl (fun W hW => ?_) hS ?_
        rotate_left
        · try dsimp only at hW
          go_simp
          try with_reducible rfl
        simp only [Act.put, List.setIfInBounds_toArray, List.set_cons_zero, List.set_cons_succ]
        refine ord_still 1 rfl (v := ?_) (by kernel_rfl) (fun _ _ _ h => h) rfl (fun W hW => ?_) hS ?_
        rotate_left
        · try dsimp only at hW
          go_simp
          try with_reducible rfl
        simp only [Act.put, List.setIfInBounds_toArray, List.set_cons_zero, List.set_cons_succ]
        refine ord_still 2 rfl (v := ?_) (by kernel_rfl) (fun _ _ _ h => h) rfl (fun W hW => ?_) hS ?_
        rotate_left
        · try dsimp only at hW
          go_simp
          try with_reducible rfl
        simp only [Act.put, List.setIfInBounds_toArray, List.set_cons_zero, List.set_cons_succ]
        refine ord_still 3 rfl (v := ?_) (by kernel_rfl) (fun _ _ _ h => h) rfl (fun W hW => ?_) hS ?_
        rotate_left
        · try dsimp only at hW
          go_simp
          try with_reducible rfl
        simp only [Act.put, List.setIfInBounds_toArray, List.set_cons_zero, List.set_cons_succ]
        refine ord_still 4 rfl (v := ?_) (by kernel_rfl) (fun _ _ _ h => h) rfl (fun W hW => ?_) hS ?_
        rotate_left
        · try dsimp only at hW
          go_simp
          try with_reducible rfl
        simp only [Act.put, List.setIfInBounds_toArray, List.set_cons_zero, List.set_cons_succ]
        refine ord_still 5 rfl (v := ?_) (by kernel_rfl) (fun _ _ _ h => h) rfl (fun W hW => ?_) hS ?_
        rotate_left
        · try dsimp only at hW
          go_simp
          try with_reducible rfl
        simp only [Act.put, List.setIfInBounds_toArray, List.set_cons_zero, List.set_cons_succ]
        refine ord_still 6 rfl (v := ?_) (by kernel_rfl) (fun _ _ _ h => h) rfl (fun W hW => ?_) hS ?_
        rotate_left
        · try dsimp only at hW
          go_simp
          try with_reducible rfl
        simp only [Act.put, List.setIfInBounds_toArray, List.set_cons_zero, List.set_cons_succ]
        refine ord_still 7 rfl (v := ?_) (by kernel_rfl) (fun _ _ _ h => h) rfl (fun W hW => ?_) hS ?_
        rotate_left
        · try dsimp only at hW
          go_simp
          try with_reducible rfl
        simp only [Act.put, List.setIfInBounds_toArray, List.set_cons_zero, List.set_cons_succ]
        refine ord_still 8 rfl (v := ?_) (by kernel_rfl) (fun _ _ _ h => h) rfl (fun W hW => ?_) hS ?_
        rotate_left
        · try dsimp only at hW
          go_simp
          try with_reducible rfl
        simp only [Act.put, List.setIfInBounds_toArray, List.set_cons_zero, List.set_cons_succ]
        refine ord_still 9 rfl (v := ?_) (by kernel_rfl) (fun _ _ _ h => h) rfl (fun W hW => ?_) hS ?_
        rotate_left
        · try dsimp only at hW
          go_simp
          try with_reducible rfl
        simp only [Act.put, List.setIfInBounds_toArray, List.set_cons_zero, List.set_cons_succ]
        refine ord_alone 10 rfl (by kernel_rfl) rfl (fun K hK => ?_)
        go_simp
        have hA : Below w2.heap.size w2 (wr.drew.drew.alloc (.cells #[.int .u64 (x1 : Int), .int .u64 (x2 : Int), .int .i64 x3, .int .i64 x4, .int .i64 (-1)] 44)) := HB0.out.drew.drew.alloc HB0.out.size _
        have hBk : Blk (wr.drew.drew.alloc (.cells #[.int .u64 (x1 : Int), .int .u64 (x2 : Int), .int .i64 x3, .int .i64 x4, .int .i64 (-1)] 44)) wr.drew.heap.size 44 (([(((x1, x2), x3), x4, -1)] : List Ch).flatMap chgEn) := Blk.new wr.drew.drew _ _
        have hOA : Owns (wr.drew.drew.alloc (.cells #[.int .u64 (x1 : Int), .int .u64 (x2 : Int), .int .i64 x3, .int .i64 x4, .int .i64 (-1)] 44)) w2.heap.size 44 5 (.slice Ao nd co) nd (chsV D) := Owns.below HO0.out (((Below.refl _ _).drew.drew).alloc (Nat.le_refl _) _)
        have HBS := hid HB0.out.size
        clear hS
        have hS : ((wr.drew.drew.alloc (.cells #[.int .u64 (x1 : Int), .int .u64 (x2 : Int), .int .i64 x3, .int .i64 x4, .int .i64 (-1)] 44)).cell? ⟨ba, oa, none⟩ = some (.int .u64 (x1 : Int)) ∧ (wr.drew.drew.alloc (.cells #[.int .u64 (x1 : Int), .int .u64 (x2 : Int), .int .i64 x3, .int .i64 x4, .int .i64 (-1)] 44)).cell? ⟨ba, oa + 1, none⟩ = some (.int .u64 (x2 : Int)) ∧ (wr.drew.drew.alloc (.cells #[.int .u64 (x1 : Int), .int .u64 (x2 : Int), .int .i64 x3, .int .i64 x4, .int .i64 (-1)] 44)).cell? ⟨ba, oa + 2, none⟩ = some (.int .i64 x3) ∧ (wr.drew.drew.alloc (.cells #[.int .u64 (x1 : Int), .int .u64 (x2 : Int), .int .i64 x3, .int .i64 x4, .int .i64 (-1)] 44)).cell? ⟨ba, oa + 3, none⟩ = some (.int .i64 x4)) := HXC.out _ (hA)
        refine hK.out _ _ hS ?_
        clear hK
        refine ord_alone 11 rfl (by kernel_rfl) rfl (fun K hK => ?_)
        refine wp_append_rd _ _ 40 rfl 44 _ 5 40 Try.underlying40 dch_row rfl (by decide) w2.heap.size _ nd _ rfl hOA _ rfl ([(((x1, x2), x3), x4, -1)] : List Ch) (Rd.of_blk (l := ([(((x1, x2), x3), x4, -1)] : List Ch)) hBk chgEn_len (by unfold maxLen; simp)) chgEn_len cells_ch ?_ ?_ ?_ ?_
        · simp only [List.length_singleton]; unfold maxLen; omega
        · simp only [List.length_singleton]; omega
        · have := HBS.out; simp; omega
        intro v5 w5 hO hC
        have HB5 := hid (show Below w2.heap.size w2 w5 from hA.trans (hC.below (B := w2.heap.size) (by have := HBS.out; simp; omega) (fun i hi hh => by have := (Owns.base_le hOA i hh).1; omega)))
        have HO5 := hid hO
        clear hS
        have hS : (w5.cell? ⟨ba, oa, none⟩ = some (.int .u64 (x1 : Int)) ∧ w5.cell? ⟨ba, oa + 1, none⟩ = some (.int .u64 (x2 : Int)) ∧ w5.cell? ⟨ba, oa + 2, none⟩ = some (.int .i64 x3) ∧ w5.cell? ⟨ba, oa + 3, none⟩ = some (.int .i64 x4)) := HXC.out _ (HB5.out)
        clear hA hBk hOA hO hC HBS
        refine hK.out _ _ hS ?_
        clear hK
        refine ord_still 12 rfl (v := ?_) (by kernel_rfl) (fun _ _ _ h => h) rfl (fun W hW => ?_) hS ?_
        rotate_left
        · try dsimp only at hW
          go_simp
          try with_reducible rfl
        simp only [Act.put, List.setIfInBounds_toArray, List.set_cons_zero, List.set_cons_succ]
        refine ord_done (by kernel_rfl) ?_
        clear hS
        go_wp2_with fail
        go_roundw
        case rel => exact ⟨_, _, _, HST.out.takeL HND.out HE.out HO5.out HB5.out⟩
        case measure => have := HNA.out; simp [lenOf]; omega
      | cons y b =>
        obtain ⟨ba, oa, hAa, la, sa⟩ := rd_head hra
        subst hAa
        obtain ⟨⟨⟨x1, x2⟩, x3⟩, x4⟩ := x
        have HXC := hid (fun (w' : World) (h : Below w2.heap.size w2 w') => sa.below la h)
        have ap : 0 < na := by rw [← hna]; simp
        have ap1 : (0 : Int) < (na : Int) := by omega
        have ap2 : ¬ (na : Int) = 0 := by omega
        have ap3 : ((na : Int) == 0) = false := by rw [beq_eq_false_iff_ne]; exact ap2
        have ap4 : (1 : Int) ≤ (na : Int) := by omega
        have ap5 : decide (0 < (na : Int)) = true := decide_eq_true ap1
        clear sa la
        obtain ⟨bb, ob, hAb, lb, sb⟩ := rd_head hrb
        subst hAb
        obtain ⟨⟨⟨y1, y2⟩, y3⟩, y4⟩ := y
        have HYC := hid (fun (w' : World) (h : Below w2.heap.size w2 w') => sb.below lb h)
        have bp : 0 < nb := by rw [← hnb]; simp
        have bp1 : (0 : Int) < (nb : Int) := by omega
        have bp2 : ¬ (nb : Int) = 0 := by omega
        have bp3 : ((nb : Int) == 0) = false := by rw [beq_eq_false_iff_ne]; exact bp2
        have bp4 : (1 : Int) ≤ (nb : Int) := by omega
        have bp5 : decide (0 < (nb : Int)) = true := decide_eq_true bp1
        clear sb lb
        have hs0 : (0 : Int) < (na : Int) + (nb : Int) := by omega
        have HNA := hid ap
        have HNB := hid bp
        have HML := hid (mergeD_lr (((x1, x2), x3), x4) (((y1, y2), y3), y4) a b)
        clear hra hrb hna hnb
        by_cases hlt : Pf.lt ((x1, x2), x3) ((y1, y2), y3)
        · have CL := hid (fun w => addr_less ((x1, x2), x3) ((y1, y2), y3) true (by rw [decide_eq_true ((cmp_lt _ _).2 hlt)]) w)
          have HE := hid (show mergeD ((((x1, x2), x3), x4) :: a) ((((y1, y2), y3), y4) :: b) = (((x1, x2), x3), x4, -1) :: mergeD a ((((y1, y2), y3), y4) :: b) from by rw [HML.out, if_pos hlt])
          clear hlt HML
          go_wp2_with fail
          have hS : (wr.drew.cell? ⟨ba, oa, none⟩ = some (.int .u64 (x1 : Int)) ∧ wr.drew.cell? ⟨ba, oa + 1, none⟩ = some (.int .u64 (x2 : Int)) ∧ wr.drew.cell? ⟨ba, oa + 2, none⟩ = some (.int .i64 x3) ∧ wr.drew.cell? ⟨ba, oa + 3, none⟩ = some (.int .i64 x4)) ∧ (wr.drew.cell? ⟨bb, ob, none⟩ = some (.int .u64 (y1 : Int)) ∧ wr.drew.cell? ⟨bb, ob + 1, none⟩ = some (.int .u64 (y2 : Int)) ∧ wr.drew.cell? ⟨bb, ob + 2, none⟩ = some (.int .i64 y3) ∧ wr.drew.cell? ⟨bb, ob + 3, none⟩ = some (.int .i64 y4)) := ⟨HXC.out _ (HB0.out.drew), HYC.out _ (HB0.out.drew)⟩
          refine wp_region_ord (fun w' => (w'.cell? ⟨ba, oa, none⟩ = some (.int .u64 (x1 : Int)) ∧ w'.cell? ⟨ba, oa + 1, none⟩ = some (.int .u64 (x2 : Int)) ∧ w'.cell? ⟨ba, oa + 2, none⟩ = some (.int .i64 x3) ∧ w'.cell? ⟨ba, oa + 3, none⟩ = some (.int .i64 x4)) ∧ (w'.cell? ⟨bb, ob, none⟩ = some (.int .u64 (y1 : Int)) ∧ w'.cell? ⟨bb, ob + 1, none⟩ = some (.int .u64 (y2 : Int)) ∧ w'.cell? ⟨bb, ob + 2, none⟩ = some (.int .i64 y3) ∧ w'.cell? ⟨bb, ob + 3, none⟩ = some (.int .i64 y4))) (by kernel_rfl) hS ?_
          refine ord_still 0 rfl (v := ?_) (by kernel_rfl) (fun _ _ _ h => h) rfl (fun W hW => ?_) hS ?_
          rotate_left
          · try dsimp only at hW
            go_simp
            try with_reducible rfl
          simp only [Act.put, List.setIfInBounds_toArray, List.set_cons_zero, List.set_cons_succ]
          refine ord_still 1 rfl (v := ?_) (by kernel_rfl) (fun _ _ _ h => h) rfl (fun W hW => ?_) hS ?_
          rotate_left
          · try dsimp only at hW
            go_simp
            try with_reducible rfl
          simp only [Act.put, List.setIfInBounds_toArray, List.set_cons_zero, List.set_cons_succ]
          refine ord_still 2 rfl (v := ?_) (by kernel_rfl) (fun _ _ _ h => h) rfl (fun W hW => ?_) hS ?_
          rotate_left
          · try dsimp only at hW
            go_simp
            try with_reducible rfl
          simp only [Act.put, List.setIfInBounds_toArray, List.set_cons_zero, List.set_cons_succ]
          refine ord_still 3 rfl (v := ?_) (by kernel_rfl) (fun _ _ _ h => h) rfl (fun W hW => ?_) hS ?_
          rotate_left
          · try dsimp only at hW
            go_simp
            try with_reducible rfl
          simp only [Act.put, List.setIfInBounds_toArray, List.set_cons_zero, List.set_cons_succ]
          refine ord_still 4 rfl (v := ?_) (by kernel_rfl) (fun _ _ _ h => h) rfl (fun W hW => ?_) hS ?_
          rotate_left
          · try dsimp only at hW
            go_simp
            try with_reducible rfl
          simp only [Act.put, List.setIfInBounds_toArray, List.set_cons_zero, List.set_cons_succ]
          refine ord_still 5 rfl (v := ?_) (by kernel_rfl) (fun _ _ _ h => h) rfl (fun W hW => ?_) hS ?_
          rotate_left
          · try dsimp only at hW
            go_simp
            try with_reducible rfl
          simp only [Act.put, List.setIfInBounds_toArray, List.set_cons_zero, List.set_cons_succ]
          refine ord_still 6 rfl (v := ?_) (by kernel_rfl) (fun _ _ _ h => h) rfl (fun W hW => ?_) hS ?_
          rotate_left
          · try dsimp only at hW
            go_simp
            try with_reducible rfl
          simp only [Act.put, List.setIfInBounds_toArray, List.set_cons_zero, List.set_cons_succ]
          refine ord_still 7 rfl (v := ?_) (by kernel_rfl) (fun _ _ _ h => h) rfl (fun W hW => ?_) hS ?_
          rotate_left
          · try dsimp only at hW
            go_simp
            try with_reducible rfl
          simp only [Act.put, List.setIfInBounds_toArray, List.set_cons_zero, List.set_cons_succ]
          refine ord_still 8 rfl (v := ?_) (by kernel_rfl) (fun _ _ _ h => h) rfl (fun W hW => ?_) hS ?_
          rotate_left
          · try dsimp only at hW
            go_simp
            try with_reducible rfl
          simp only [Act.put, List.setIfInBounds_toArray, List.set_cons_zero, List.set_cons_succ]
          refine ord_still 9 rfl (v := ?_) (by kernel_rfl) (fun _ _ _ h => h) rfl (fun W hW => ?_) hS ?_
          rotate_left
          · try dsimp only at hW
            go_simp
            try with_reducible rfl
          simp only [Act.put, List.setIfInBounds_toArray, List.set_cons_zero, List.set_cons_succ]
          refine ord_still 10 rfl (v := ?_) (by kernel_rfl) (fun _ _ _ h => h) rfl (fun W hW => ?_) hS ?_
          rotate_left
          · try dsimp only at hW
            go_simp
            try with_reducible rfl
          simp only [Act.put, List.setIfInBounds_toArray, List.set_cons_zero, List.set_cons_succ]
          refine ord_still 11 rfl (v := ?_) (by kernel_rfl) (fun _ _ _ h => h) rfl (fun W hW => ?_) hS ?_
          rotate_left
          · try dsimp only at hW
            go_simp
            try with_reducible rfl
          simp only [Act.put, List.setIfInBounds_toArray, List.set_cons_zero, List.set_cons_succ]
          refine ord_still 12 rfl (v := ?_) (by kernel_rfl) (fun _ _ _ h => h) rfl (fun W hW => ?_) hS ?_
          rotate_left
          · try dsimp only at hW
            go_simp
            try with_reducible rfl
          simp only [Act.put, List.setIfInBounds_toArray, List.set_cons_zero, List.set_cons_succ]
          refine ord_still 13 rfl (v := ?_) (by kernel_rfl) (fun _ _ _ h => h) rfl (fun W hW => ?_) hS ?_
          rotate_left
          · try dsimp only at hW
            go_simp
            try with_reducible rfl
          simp only [Act.put, List.setIfInBounds_toArray, List.set_cons_zero, List.set_cons_succ]
          refine ord_still 14 rfl (v := ?_) (by kernel_rfl) (fun _ _ _ h => h) rfl (fun W hW => ?_) hS ?_
          rotate_left
          · try dsimp only at hW
            go_simp
            try with_reducible rfl
          simp only [Act.put, List.setIfInBounds_toArray, List.set_cons_zero, List.set_cons_succ]
          refine ord_still 15 rfl (v := ?_) (by kernel_rfl) (fun _ _ _ h => h) rfl (fun W hW => ?_) hS ?_
          rotate_left
          · try dsimp only at hW
            go_simp
            try with_reducible rfl
          simp only [Act.put, List.setIfInBounds_toArray, List.set_cons_zero, List.set_cons_succ]
          refine ord_alone 16 rfl (by kernel_rfl) rfl (fun K hK => ?_)
          go_simp
          refine (CL.out _).mono ?_
          rintro _ w4 ⟨rfl, hb⟩
          have HB4 := hid (held_next HB0.out.drew hb)
          have HO4 := hid (Owns.below HO0.out (((Below.refl _ _).drew).trans hb))
          clear hS
          have hS : (w4.cell? ⟨ba, oa, none⟩ = some (.int .u64 (x1 : Int)) ∧ w4.cell? ⟨ba, oa + 1, none⟩ = some (.int .u64 (x2 : Int)) ∧ w4.cell? ⟨ba, oa + 2, none⟩ = some (.int .i64 x3) ∧ w4.cell? ⟨ba, oa + 3, none⟩ = some (.int .i64 x4)) ∧ (w4.cell? ⟨bb, ob, none⟩ = some (.int .u64 (y1 : Int)) ∧ w4.cell? ⟨bb, ob + 1, none⟩ = some (.int .u64 (y2 : Int)) ∧ w4.cell? ⟨bb, ob + 2, none⟩ = some (.int .i64 y3) ∧ w4.cell? ⟨bb, ob + 3, none⟩ = some (.int .i64 y4)) := ⟨HXC.out _ (HB4.out), HYC.out _ (HB4.out)⟩
          clear hb
          refine hK.out _ _ hS ?_
          clear hK
          refine ord_still 17 rfl (v := ?_) (by kernel_rfl) (fun _ _ _ h => h) rfl (fun W hW => ?_) hS ?_
          rotate_left
          · try dsimp only at hW
            go_simp
            try with_reducible rfl
          simp only [Act.put, List.setIfInBounds_toArray, List.set_cons_zero, List.set_cons_succ]
          refine ord_still 18 rfl (v := ?_) (by kernel_rfl) (fun _ _ _ h => h) rfl (fun W hW => ?_) hS ?_
          rotate_left
          · try dsimp only at hW
            go_simp
            try with_reducible rfl
          simp only [Act.put, List.setIfInBounds_toArray, List.set_cons_zero, List.set_cons_succ]
          refine ord_still 19 rfl (v := ?_) (by kernel_rfl) (fun _ _ _ h => h) rfl (fun W hW => ?_) hS ?_
          rotate_left
          · try dsimp only at hW
            go_simp
            try with_reducible rfl
          simp only [Act.put, List.setIfInBounds_toArray, List.set_cons_zero, List.set_cons_succ]
          refine ord_done (by kernel_rfl) ?_
          clear hS
          go_wp2_with fail
          have hS : (w4.drew.cell? ⟨ba, oa, none⟩ = some (.int .u64 (x1 : Int)) ∧ w4.drew.cell? ⟨ba, oa + 1, none⟩ = some (.int .u64 (x2 : Int)) ∧ w4.drew.cell? ⟨ba, oa + 2, none⟩ = some (.int .i64 x3) ∧ w4.drew.cell? ⟨ba, oa + 3, none⟩ = some (.int .i64 x4)) ∧ (w4.drew.cell? ⟨bb, ob, none⟩ = some (.int .u64 (y1 : Int)) ∧ w4.drew.cell? ⟨bb, ob + 1, none⟩ = some (.int .u64 (y2 : Int)) ∧ w4.drew.cell? ⟨bb, ob + 2, none⟩ = some (.int .i64 y3) ∧ w4.drew.cell? ⟨bb, ob + 3, none⟩ = some (.int .i64 y4)) := ⟨HXC.out _ (HB4.out.drew), HYC.out _ (HB4.out.drew)⟩
          refine wp_region_ord (fun w' => (w'.cell? ⟨ba, oa, none⟩ = some (.int .u64 (x1 : Int)) ∧ w'.cell? ⟨ba, oa + 1, none⟩ = some (.int .u64 (x2 : Int)) ∧ w'.cell? ⟨ba, oa + 2, none⟩ = some (.int .i64 x3) ∧ w'.cell? ⟨ba, oa + 3, none⟩ = some (.int .i64 x4)) ∧ (w'.cell? ⟨bb, ob, none⟩ = some (.int .u64 (y1 : Int)) ∧ w'.cell? ⟨bb, ob + 1, none⟩ = some (.int .u64 (y2 : Int)) ∧ w'.cell? ⟨bb, ob + 2, none⟩ = some (.int .i64 y3) ∧ w'.cell? ⟨bb, ob + 3, none⟩ = some (.int .i64 y4))) (by kernel_rfl) hS ?_
          refine ord_still 0 rfl (v := ?_) (by kernel_rfl) (fun _ _ _ h => h) rfl (fun W hW => ?_) hS ?_
          rotate_left
          · try dsimp only at hW
            go_simp
            try with_reducible rfl
          simp only [Act.put, List.setIfInBounds_toArray, List.set_cons_zero, List.set_cons_succ]
          refine ord_still 1 rfl (v := ?_) (by kernel_rfl) (fun _ _ _ h => h) rfl (fun W hW => ?_) hS ?_
          rotate_left
          · try dsimp only at hW
            go_simp
            try with_reducible rfl
          simp only [Act.put, List.setIfInBounds_toArray, List.set_cons_zero, List.set_cons_succ]
          refine ord_still 2 rfl (v := ?_) (by kernel_rfl) (fun _ _ _ h => h) rfl (fun W hW => ?_) hS ?_
          rotate_left
          · try dsimp only at hW
            go_simp
            try with_reducible rfl
          simp only [Act.put, List.setIfInBounds_toArray, List.set_cons_zero, List.set_cons_succ]
          refine ord_still 3 rfl (v := ?_) (by kernel_rfl) (fun _ _ _ h => h) rfl (fun W hW => ?_) hS ?_
          rotate_left
          · try dsimp only at hW
            go_simp
            try with_reducible rfl
          simp only [Act.put, List.setIfInBounds_toArray, List.set_cons_zero, List.set_cons_succ]
          refine ord_still 4 rfl (v := ?_) (by kernel_rfl) (fun _ _ _ h => h) rfl (fun W hW => ?_) hS ?_
          rotate_left
          · try dsimp only at hW
            go_simp
            try with_reducible rfl
          simp only [Act.put, List.setIfInBounds_toArray, List.set_cons_zero, List.set_cons_succ]
          refine ord_still 5 rfl (v := ?_) (by kernel_rfl) (fun _ _ _ h => h) rfl (fun W hW => ?_) hS ?_
          rotate_left
          · try dsimp only at hW
            go_simp
            try with_reducible rfl
          simp only [Act.put, List.setIfInBounds_toArray, List.set_cons_zero, List.set_cons_succ]
          refine ord_still 6 rfl (v := ?_) (by kernel_rfl) (fun _ _ _ h => h) rfl (fun W hW => ?_) hS ?_
          rotate_left
          · try dsimp only at hW
            go_simp
            try with_reducible rfl
          simp only [Act.put, List.setIfInBounds_toArray, List.set_cons_zero, List.set_cons_succ]
          refine ord_still 7 rfl (v := ?_) (by kernel_rfl) (fun _ _ _ h => h) rfl (fun W hW => ?_) hS ?_
          rotate_left
          · try dsimp only at hW
            go_simp
            try with_reducible rfl
          simp only [Act.put, List.setIfInBounds_toArray, List.set_cons_zero, List.set_cons_succ]
          refine ord_still 8 rfl (v := ?_) (by kernel_rfl) (fun _ _ _ h => h) rfl (fun W hW => ?_) hS ?_
          rotate_left
          · try dsimp only at hW
            go_simp
            try with_reducible rfl
          simp only [Act.put, List.setIfInBounds_toArray, List.set_cons_zero, List.set_cons_succ]
          refine ord_still 9 rfl (v := ?_) (by kernel_rfl) (fun _ _ _ h => h) rfl (fun W hW => ?_) hS ?_
          rotate_left
          · try dsimp only at hW
            go_simp
            try with_reducible rfl
          simp only [Act.put, List.setIfInBounds_toArray, List.set_cons_zero, List.set_cons_succ]
          refine ord_alone 10 rfl (by kernel_rfl) rfl (fun K hK => ?_)
          go_simp
          have hA : Below w2.heap.size w2 (w4.drew.alloc (.cells #[.int .u64 (x1 : Int), .int .u64 (x2 : Int), .int .i64 x3, .int .i64 x4, .int .i64 (-1)] 44)) := HB4.out.drew.alloc HB4.out.size _
          have hBk : Blk (w4.drew.alloc (.cells #[.int .u64 (x1 : Int), .int .u64 (x2 : Int), .int .i64 x3, .int .i64 x4, .int .i64 (-1)] 44)) w4.heap.size 44 (([(((x1, x2), x3), x4, -1)] : List Ch).flatMap chgEn) := Blk.new w4.drew _ _
          have hOA : Owns (w4.drew.alloc (.cells #[.int .u64 (x1 : Int), .int .u64 (x2 : Int), .int .i64 x3, .int .i64 x4, .int .i64 (-1)] 44)) w2.heap.size 44 5 (.slice Ao nd co) nd (chsV D) := Owns.below HO4.out (((Below.refl _ _).drew).alloc (Nat.le_refl _) _)
          have HBS := hid HB4.out.size
          clear hS
          have hS : ((w4.drew.alloc (.cells #[.int .u64 (x1 : Int), .int .u64 (x2 : Int), .int .i64 x3, .int .i64 x4, .int .i64 (-1)] 44)).cell? ⟨ba, oa, none⟩ = some (.int .u64 (x1 : Int)) ∧ (w4.drew.alloc (.cells #[.int .u64 (x1 : Int), .int .u64 (x2 : Int), .int .i64 x3, .int .i64 x4, .int .i64 (-1)] 44)).cell? ⟨ba, oa + 1, none⟩ = some (.int .u64 (x2 : Int)) ∧ (w4.drew.alloc (.cells #[.int .u64 (x1 : Int), .int .u64 (x2 : Int), .int .i64 x3, .int .i64 x4, .int .i64 (-1)] 44)).cell? ⟨ba, oa + 2, none⟩ = some (.int .i64 x3) ∧ (w4.drew.alloc (.cells #[.int .u64 (x1 : Int), .int .u64 (x2 : Int), .int .i64 x3, .int .i64 x4, .int .i64 (-1)] 44)).cell? ⟨ba, oa + 3, none⟩ = some (.int .i64 x4)) ∧ ((w4.drew.alloc (.cells #[.int .u64 (x1 : Int), .int .u64 (x2 : Int), .int .i64 x3, .int .i64 x4, .int .i64 (-1)] 44)).cell? ⟨bb, ob, none⟩ = some (.int .u64 (y1 : Int)) ∧ (w4.drew.alloc (.cells #[.int .u64 (x1 : Int), .int .u64 (x2 : Int), .int .i64 x3, .int .i64 x4, .int .i64 (-1)] 44)).cell? ⟨bb, ob + 1, none⟩ = some (.int .u64 (y2 : Int)) ∧ (w4.drew.alloc (.cells #[.int .u64 (x1 : Int), .int .u64 (x2 : Int), .int .i64 x3, .int .i64 x4, .int .i64 (-1)] 44)).cell? ⟨bb, ob + 2, none⟩ = some (.int .i64 y3) ∧ (w4.drew.alloc (.cells #[.int .u64 (x1 : Int), .int .u64 (x2 : Int), .int .i64 x3, .int .i64 x4, .int .i64 (-1)] 44)).cell? ⟨bb, ob + 3, none⟩ = some (.int .i64 y4)) := ⟨HXC.out _ (hA), HYC.out _ (hA)⟩
          refine hK.out _ _ hS ?_
          clear hK
          refine ord_alone 11 rfl (by kernel_rfl) rfl (fun K hK => ?_)
          refine wp_append_rd _ _ 40 rfl 44 _ 5 40 Try.underlying40 dch_row rfl (by decide) w2.heap.size _ nd _ rfl hOA _ rfl ([(((x1, x2), x3), x4, -1)] : List Ch) (Rd.of_blk (l := ([(((x1, x2), x3), x4, -1)] : List Ch)) hBk chgEn_len (by unfold maxLen; simp)) chgEn_len cells_ch ?_ ?_ ?_ ?_
          · simp only [List.length_singleton]; unfold maxLen; omega
          · simp only [List.length_singleton]; omega
          · have := HBS.out; simp; omega
          intro v5 w5 hO hC
          have HB5 := hid (show Below w2.heap.size w2 w5 from hA.trans (hC.below (B := w2.heap.size) (by have := HBS.out; simp; omega) (fun i hi hh => by have := (Owns.base_le hOA i hh).1; omega)))
          have HO5 := hid hO
          clear hS
          have hS : (w5.cell? ⟨ba, oa, none⟩ = some (.int .u64 (x1 : Int)) ∧ w5.cell? ⟨ba, oa + 1, none⟩ = some (.int .u64 (x2 : Int)) ∧ w5.cell? ⟨ba, oa + 2, none⟩ = some (.int .i64 x3) ∧ w5.cell? ⟨ba, oa + 3, none⟩ = some (.int .i64 x4)) ∧ (w5.cell? ⟨bb, ob, none⟩ = some (.int .u64 (y1 : Int)) ∧ w5.cell? ⟨bb, ob + 1, none⟩ = some (.int .u64 (y2 : Int)) ∧ w5.cell? ⟨bb, ob + 2, none⟩ = some (.int .i64 y3) ∧ w5.cell? ⟨bb, ob + 3, none⟩ = some (.int .i64 y4)) := ⟨HXC.out _ (HB5.out), HYC.out _ (HB5.out)⟩
          clear hA hBk hOA hO hC HBS
          refine hK.out _ _ hS ?_
          clear hK
          refine ord_still 12 rfl (v := ?_) (by kernel_rfl) (fun _ _ _ h => h) rfl (fun W hW => ?_) hS ?_
          rotate_left
          · try dsimp only at hW
            go_simp
            try with_reducible rfl
          simp only [Act.put, List.setIfInBounds_toArray, List.set_cons_zero, List.set_cons_succ]
          refine ord_done (by kernel_rfl) ?_
          clear hS
          go_wp2_with fail
          go_roundw
          case rel => exact ⟨_, _, _, HST.out.takeL HND.out HE.out HO5.out HB5.out⟩
          case measure => have := HNA.out; simp [lenOf]; omega
        · have CL := hid (fun w => addr_less ((x1, x2), x3) ((y1, y2), y3) false (by rw [decide_eq_false (fun k => hlt ((cmp_lt _ _).1 k))]) w)
          by_cases hgt : Pf.lt ((y1, y2), y3) ((x1, x2), x3)
          · have CG := hid (fun w => addr_less ((y1, y2), y3) ((x1, x2), x3) true (by rw [decide_eq_true ((cmp_lt _ _).2 hgt)]) w)
            have HE := hid (show mergeD ((((x1, x2), x3), x4) :: a) ((((y1, y2), y3), y4) :: b) = (((y1, y2), y3), -1, y4) :: mergeD ((((x1, x2), x3), x4) :: a) b from by rw [HML.out, if_neg hlt, if_pos hgt])
            clear hlt hgt HML
            go_wp2_with fail
            have hS : (wr.drew.cell? ⟨ba, oa, none⟩ = some (.int .u64 (x1 : Int)) ∧ wr.drew.cell? ⟨ba, oa + 1, none⟩ = some (.int .u64 (x2 : Int)) ∧ wr.drew.cell? ⟨ba, oa + 2, none⟩ = some (.int .i64 x3) ∧ wr.drew.cell? ⟨ba, oa + 3, none⟩ = some (.int .i64 x4)) ∧ (wr.drew.cell? ⟨bb, ob, none⟩ = some (.int .u64 (y1 : Int)) ∧ wr.drew.cell? ⟨bb, ob + 1, none⟩ = some (.int .u64 (y2 : Int)) ∧ wr.drew.cell? ⟨bb, ob + 2, none⟩ = some (.int .i64 y3) ∧ wr.drew.cell? ⟨bb, ob + 3, none⟩ = some (.int .i64 y4)) := ⟨HXC.out _ (HB0.out.drew), HYC.out _ (HB0.out.drew)⟩
            refine wp_region_ord (fun w' => (w'.cell? ⟨ba, oa, none⟩ = some (.int .u64 (x1 : Int)) ∧ w'.cell? ⟨ba, oa + 1, none⟩ = some (.int .u64 (x2 : Int)) ∧ w'.cell? ⟨ba, oa + 2, none⟩ = some (.int .i64 x3) ∧ w'.cell? ⟨ba, oa + 3, none⟩ = some (.int .i64 x4)) ∧ (w'.cell? ⟨bb, ob, none⟩ = some (.int .u64 (y1 : Int)) ∧ w'.cell? ⟨bb, ob + 1, none⟩ = some (.int .u64 (y2 : Int)) ∧ w'.cell? ⟨bb, ob + 2, none⟩ = some (.int .i64 y3) ∧ w'.cell? ⟨bb, ob + 3, none⟩ = some (.int .i64 y4))) (by kernel_rfl) hS ?_
            refine ord_still 0 rfl (v := ?_) (by kernel_rfl) (fun _ _ _ h => h) rfl (fun W hW => ?_) hS ?_
            rotate_left
            · try dsimp only at hW
              go_simp
              try with_reducible rfl
            simp only [Act.put, List.setIfInBounds_toArray, List.set_cons_zero, List.set_cons_succ]
            refine ord_still 1 rfl (v := ?_) (by kernel_rfl) (fun _ _ _ h => h) rfl (fun W hW => ?_) hS ?_
            rotate_left
            · try dsimp only at hW
              go_simp
              try with_reducible rfl
            simp only [Act.put, List.setIfInBounds_toArray, List.set_cons_zero, List.set_cons_succ]
            refine ord_still 2 rfl (v := ?_) (by kernel_rfl) (fun _ _ _ h => h) rfl (fun W hW => ?_) hS ?_
            rotate_left
            · try dsimp only at hW
              go_simp
              try with_reducible rfl
            simp only [Act.put, List.setIfInBounds_toArray, List.set_cons_zero, List.set_cons_succ]
            refine ord_still 3 rfl (v := ?_) (by kernel_rfl) (fun _ _ _ h => h) rfl (fun W hW => ?_) hS ?_
            rotate_left
            · try dsimp only at hW
              go_simp
              try with_reducible rfl
            simp only [Act.put, List.setIfInBounds_toArray, List.set_cons_zero, List.set_cons_succ]
            refine ord_still 4 rfl (v := ?_) (by kernel_rfl) (fun _ _ _ h => h) rfl (fun W hW => ?_) hS ?_
            rotate_left
            · try dsimp only at hW
              go_simp
              try with_reducible rfl
            simp only [Act.put, List.setIfInBounds_toArray, List.set_cons_zero, List.set_cons_succ]
            refine ord_still 5 rfl (v := ?_) (by kernel_rfl) (fun _ _ _ h => h) rfl (fun W hW => ?_) hS ?_
            rotate_left
            · try dsimp only at hW
              go_simp
              try with_reducible rfl
            simp only [Act.put, List.setIfInBounds_toArray, List.set_cons_zero, List.set_cons_succ]
            refine ord_still 6 rfl (v := ?_) (by kernel_rfl) (fun _ _ _ h => h) rfl (fun W hW => ?_) hS ?_
            rotate_left
            · try dsimp only at hW
              go_simp
              try with_reducible rfl
            simp only [Act.put, List.setIfInBounds_toArray, List.set_cons_zero, List.set_cons_succ]
            refine ord_still 7 rfl (v := ?_) (by kernel_rfl) (fun _ _ _ h => h) rfl (fun W hW => ?_) hS ?_
            rotate_left
            · try dsimp only at hW
              go_simp
              try with_reducible rfl
            simp only [Act.put, List.setIfInBounds_toArray, List.set_cons_zero, List.set_cons_succ]
            refine ord_still 8 rfl (v := ?_) (by kernel_rfl) (fun _ _ _ h => h) rfl (fun W hW => ?_) hS ?_
            rotate_left
            · try dsimp only at hW
              go_simp
              try with_reducible rfl
            simp only [Act.put, List.setIfInBounds_toArray, List.set_cons_zero, List.set_cons_succ]
            refine ord_still 9 rfl (v := ?_) (by kernel_rfl) (fun _ _ _ h => h) rfl (fun W hW => ?_) hS ?_
            rotate_left
            · try dsimp only at hW
              go_simp
              try with_reducible rfl
            simp only [Act.put, List.setIfInBounds_toArray, List.set_cons_zero, List.set_cons_succ]
            refine ord_still 10 rfl (v := ?_) (by kernel_rfl) (fun _ _ _ h => h) rfl (fun W hW => ?_) hS ?_
            rotate_left
            · try dsimp only at hW
              go_simp
              try with_reducible rfl
            simp only [Act.put, List.setIfInBounds_toArray, List.set_cons_zero, List.set_cons_succ]
            refine ord_still 11 rfl (v := ?_) (by kernel_rfl) (fun _ _ _ h => h) rfl (fun W hW => ?_) hS ?_
            rotate_left
            · try dsimp only at hW
              go_simp
              try with_reducible rfl
            simp only [Act.put, List.setIfInBounds_toArray, List.set_cons_zero, List.set_cons_succ]
            refine ord_still 12 rfl (v := ?_) (by kernel_rfl) (fun _ _ _ h => h) rfl (fun W hW => ?_) hS ?_
            rotate_left
            · try dsimp only at hW
              go_simp
              try with_reducible rfl
            simp only [Act.put, List.setIfInBounds_toArray, List.set_cons_zero, List.set_cons_succ]
            refine ord_still 13 rfl (v := ?_) (by kernel_rfl) (fun _ _ _ h => h) rfl (fun W hW => ?_) hS ?_
            rotate_left
            · try dsimp only at hW
              go_simp
              try with_reducible rfl
            simp only [Act.put, List.setIfInBounds_toArray, List.set_cons_zero, List.set_cons_succ]
            refine ord_still 14 rfl (v := ?_) (by kernel_rfl) (fun _ _ _ h => h) rfl (fun W hW => ?_) hS ?_
            rotate_left
            · try dsimp only at hW
              go_simp
              try with_reducible rfl
            simp only [Act.put, List.setIfInBounds_toArray, List.set_cons_zero, List.set_cons_succ]
            refine ord_still 15 rfl (v := ?_) (by kernel_rfl) (fun _ _ _ h => h) rfl (fun W hW => ?_) hS ?_
            rotate_left
            · try dsimp only at hW
              go_simp
              try with_reducible rfl
            simp only [Act.put, List.setIfInBounds_toArray, List.set_cons_zero, List.set_cons_succ]
            refine ord_alone 16 rfl (by kernel_rfl) rfl (fun K hK => ?_)
            go_simp
            refine (CL.out _).mono ?_
            rintro _ w4 ⟨rfl, hb⟩
            have HB4 := hid (held_next HB0.out.drew hb)
            have HO4 := hid (Owns.below HO0.out (((Below.refl _ _).drew).trans hb))
            clear hS
            have hS : (w4.cell? ⟨ba, oa, none⟩ = some (.int .u64 (x1 : Int)) ∧ w4.cell? ⟨ba, oa + 1, none⟩ = some (.int .u64 (x2 : Int)) ∧ w4.cell? ⟨ba, oa + 2, none⟩ = some (.int .i64 x3) ∧ w4.cell? ⟨ba, oa + 3, none⟩ = some (.int .i64 x4)) ∧ (w4.cell? ⟨bb, ob, none⟩ = some (.int .u64 (y1 : Int)) ∧ w4.cell? ⟨bb, ob + 1, none⟩ = some (.int .u64 (y2 : Int)) ∧ w4.cell? ⟨bb, ob + 2, none⟩ = some (.int .i64 y3) ∧ w4.cell? ⟨bb, ob + 3, none⟩ = some (.int .i64 y4)) := ⟨HXC.out _ (HB4.out), HYC.out _ (HB4.out)⟩
            clear hb
            refine hK.out _ _ hS ?_
            clear hK
            refine ord_still 17 rfl (v := ?_) (by kernel_rfl) (fun _ _ _ h => h) rfl (fun W hW => ?_) hS ?_
            rotate_left
            · try dsimp only at hW
              go_simp
              try with_reducible rfl
            simp only [Act.put, List.setIfInBounds_toArray, List.set_cons_zero, List.set_cons_succ]
            refine ord_still 18 rfl (v := ?_) (by kernel_rfl) (fun _ _ _ h => h) rfl (fun W hW => ?_) hS ?_
            rotate_left
            · try dsimp only at hW
              go_simp
              try with_reducible rfl
            simp only [Act.put, List.setIfInBounds_toArray, List.set_cons_zero, List.set_cons_succ]
            refine ord_still 19 rfl (v := ?_) (by kernel_rfl) (fun _ _ _ h => h) rfl (fun W hW => ?_) hS ?_
            rotate_left
            · try dsimp only at hW
              go_simp
              try with_reducible rfl
            simp only [Act.put, List.setIfInBounds_toArray, List.set_cons_zero, List.set_cons_succ]
            refine ord_done (by kernel_rfl) ?_
            clear hS
            go_wp2_with fail
            have hS : (w4.drew.cell? ⟨ba, oa, none⟩ = some (.int .u64 (x1 : Int)) ∧ w4.drew.cell? ⟨ba, oa + 1, none⟩ = some (.int .u64 (x2 : Int)) ∧ w4.drew.cell? ⟨ba, oa + 2, none⟩ = some (.int .i64 x3) ∧ w4.drew.cell? ⟨ba, oa + 3, none⟩ = some (.int .i64 x4)) ∧ (w4.drew.cell? ⟨bb, ob, none⟩ = some (.int .u64 (y1 : Int)) ∧ w4.drew.cell? ⟨bb, ob + 1, none⟩ = some (.int .u64 (y2 : Int)) ∧ w4.drew.cell? ⟨bb, ob + 2, none⟩ = some (.int .i64 y3) ∧ w4.drew.cell? ⟨bb, ob + 3, none⟩ = some (.int .i64 y4)) := ⟨HXC.out _ (HB4.out.drew), HYC.out _ (HB4.out.drew)⟩
            refine wp_region_ord (fun w' => (w'.cell? ⟨ba, oa, none⟩ = some (.int .u64 (x1 : Int)) ∧ w'.cell? ⟨ba, oa + 1, none⟩ = some (.int .u64 (x2 : Int)) ∧ w'.cell? ⟨ba, oa + 2, none⟩ = some (.int .i64 x3) ∧ w'.cell? ⟨ba, oa + 3, none⟩ = some (.int .i64 x4)) ∧ (w'.cell? ⟨bb, ob, none⟩ = some (.int .u64 (y1 : Int)) ∧ w'.cell? ⟨bb, ob + 1, none⟩ = some (.int .u64 (y2 : Int)) ∧ w'.cell? ⟨bb, ob + 2, none⟩ = some (.int .i64 y3) ∧ w'.cell? ⟨bb, ob + 3, none⟩ = some (.int .i64 y4))) (by kernel_rfl) hS ?_
            refine ord_still 0 rfl (v := ?_) (by kernel_rfl) (fun _ _ _ h => h) rfl (fun W hW => ?_) hS ?_
            rotate_left
            · try dsimp only at hW
              go_simp
              try with_reducible rfl
            simp only [Act.put, List.setIfInBounds_toArray, List.set_cons_zero, List.set_cons_succ]
            refine ord_still 1 rfl (v := ?_) (by kernel_rfl) (fun _ _ _ h => h) rfl (fun W hW => ?_) hS ?_
            rotate_left
            · try dsimp only at hW
              go_simp
              try with_reducible rfl
            simp only [Act.put, List.setIfInBounds_toArray, List.set_cons_zero, List.set_cons_succ]
            refine ord_still 2 rfl (v := ?_) (by kernel_rfl) (fun _ _ _ h => h) rfl (fun W hW => ?_) hS ?_
            rotate_left
            · try dsimp only at hW
              go_simp
              try with_reducible rfl
            simp only [Act.put, List.setIfInBounds_toArray, List.set_cons_zero, List.set_cons_succ]
            refine ord_still 3 rfl (v := ?_) (by kernel_rfl) (fun _ _ _ h => h) rfl (fun W hW => ?_) hS ?_
            rotate_left
            · try dsimp only at hW
              go_simp
              try with_reducible rfl
            simp only [Act.put, List.setIfInBounds_toArray, List.set_cons_zero, List.set_cons_succ]
            refine ord_still 4 rfl (v := ?_) (by kernel_rfl) (fun _ _ _ h => h) rfl (fun W hW => ?_) hS ?_
            rotate_left
            · try dsimp only at hW
              go_simp
              try with_reducible rfl
            simp only [Act.put, List.setIfInBounds_toArray, List.set_cons_zero, List.set_cons_succ]
            refine ord_still 5 rfl (v := ?_) (by kernel_rfl) (fun _ _ _ h => h) rfl (fun W hW => ?_) hS ?_
            rotate_left
            · try dsimp only at hW
              go_simp
              try with_reducible rfl
            simp only [Act.put, List.setIfInBounds_toArray, List.set_cons_zero, List.set_cons_succ]
            refine ord_still 6 rfl (v := ?_) (by kernel_rfl) (fun _ _ _ h => h) rfl (fun W hW => ?_) hS ?_
            rotate_left
            · try dsimp only at hW
              go_simp
              try with_reducible rfl
            simp only [Act.put, List.setIfInBounds_toArray, List.set_cons_zero, List.set_cons_succ]
            refine ord_still 7 rfl (v := ?_) (by kernel_rfl) (fun _ _ _ h => h) rfl (fun W hW => ?_) hS ?_
            rotate_left
            · try dsimp only at hW
              go_simp
              try with_reducible rfl
            simp only [Act.put, List.setIfInBounds_toArray, List.set_cons_zero, List.set_cons_succ]
            refine ord_still 8 rfl (v := ?_) (by kernel_rfl) (fun _ _ _ h => h) rfl (fun W hW => ?_) hS ?_
            rotate_left
            · try dsimp only at hW
              go_simp
              try with_reducible rfl
            simp only [Act.put, List.setIfInBounds_toArray, List.set_cons_zero, List.set_cons_succ]
            refine ord_still 9 rfl (v := ?_) (by kernel_rfl) (fun _ _ _ h => h) rfl (fun W hW => ?_) hS ?_
            rotate_left
            · try dsimp only at hW
              go_simp
              try with_reducible rfl
            simp only [Act.put, List.setIfInBounds_toArray, List.set_cons_zero, List.set_cons_succ]
            refine ord_still 10 rfl (v := ?_) (by kernel_rfl) (fun _ _ _ h => h) rfl (fun W hW => ?_) hS ?_
            rotate_left
            · try dsimp only at hW
              go_simp
              try with_reducible rfl
            simp only [Act.put, List.setIfInBounds_toArray, List.set_cons_zero, List.set_cons_succ]
            refine ord_still 11 rfl (v := ?_) (by kernel_rfl) (fun _ _ _ h => h) rfl (fun W hW => ?_) hS ?_
            rotate_left
            · try dsimp only at hW
              go_simp
              try with_reducible rfl
            simp only [Act.put, List.setIfInBounds_toArray, List.set_cons_zero, List.set_cons_succ]
            refine ord_alone 12 rfl (by kernel_rfl) rfl (fun K hK => ?_)
            go_simp
            refine (CG.out _).mono ?_
            rintro _ w6 ⟨rfl, hb⟩
            have HB6 := hid (held_next HB4.out.drew hb)
            have HO6 := hid (Owns.below HO4.out (((Below.refl _ _).drew).trans hb))
            clear hS
            have hS : (w6.cell? ⟨ba, oa, none⟩ = some (.int .u64 (x1 : Int)) ∧ w6.cell? ⟨ba, oa + 1, none⟩ = some (.int .u64 (x2 : Int)) ∧ w6.cell? ⟨ba, oa + 2, none⟩ = some (.int .i64 x3) ∧ w6.cell? ⟨ba, oa + 3, none⟩ = some (.int .i64 x4)) ∧ (w6.cell? ⟨bb, ob, none⟩ = some (.int .u64 (y1 : Int)) ∧ w6.cell? ⟨bb, ob + 1, none⟩ = some (.int .u64 (y2 : Int)) ∧ w6.cell? ⟨bb, ob + 2, none⟩ = some (.int .i64 y3) ∧ w6.cell? ⟨bb, ob + 3, none⟩ = some (.int .i64 y4)) := ⟨HXC.out _ (HB6.out), HYC.out _ (HB6.out)⟩
            clear hb
            refine hK.out _ _ hS ?_
            clear hK
            refine ord_still 13 rfl (v := ?_) (by kernel_rfl) (fun _ _ _ h => h) rfl (fun W hW => ?_) hS ?_
            rotate_left
            · try dsimp only at hW
              go_simp
              try with_reducible rfl
            simp only [Act.put, List.setIfInBounds_toArray, List.set_cons_zero, List.set_cons_succ]
            refine ord_still 14 rfl (v := ?_) (by kernel_rfl) (fun _ _ _ h => h) rfl (fun W hW => ?_) hS ?_
            rotate_left
            · try dsimp only at hW
              go_simp
              try with_reducible rfl
            simp only [Act.put, List.setIfInBounds_toArray, List.set_cons_zero, List.set_cons_succ]
            refine ord_done (by kernel_rfl) ?_
            clear hS
            go_wp2_with fail
            have hS : (w6.drew.cell? ⟨ba, oa, none⟩ = some (.int .u64 (x1 : Int)) ∧ w6.drew.cell? ⟨ba, oa + 1, none⟩ = some (.int .u64 (x2 : Int)) ∧ w6.drew.cell? ⟨ba, oa + 2, none⟩ = some (.int .i64 x3) ∧ w6.drew.cell? ⟨ba, oa + 3, none⟩ = some (.int .i64 x4)) ∧ (w6.drew.cell? ⟨bb, ob, none⟩ = some (.int .u64 (y1 : Int)) ∧ w6.drew.cell? ⟨bb, ob + 1, none⟩ = some (.int .u64 (y2 : Int)) ∧ w6.drew.cell? ⟨bb, ob + 2, none⟩ = some (.int .i64 y3) ∧ w6.drew.cell? ⟨bb, ob + 3, none⟩ = some (.int .i64 y4)) := ⟨HXC.out _ (HB6.out.drew), HYC.out _ (HB6.out.drew)⟩
            refine wp_region_ord (fun w' => (w'.cell? ⟨ba, oa, none⟩ = some (.int .u64 (x1 : Int)) ∧ w'.cell? ⟨ba, oa + 1, none⟩ = some (.int .u64 (x2 : Int)) ∧ w'.cell? ⟨ba, oa + 2, none⟩ = some (.int .i64 x3) ∧ w'.cell? ⟨ba, oa + 3, none⟩ = some (.int .i64 x4)) ∧ (w'.cell? ⟨bb, ob, none⟩ = some (.int .u64 (y1 : Int)) ∧ w'.cell? ⟨bb, ob + 1, none⟩ = some (.int .u64 (y2 : Int)) ∧ w'.cell? ⟨bb, ob + 2, none⟩ = some (.int .i64 y3) ∧ w'.cell? ⟨bb, ob + 3, none⟩ = some (.int .i64 y4))) (by kernel_rfl) hS ?_
            refine ord_still 0 rfl (v := ?_) (by kernel_rfl) (fun _ _ _ h => h) rfl (fun W hW => ?_) hS ?_
            rotate_left
            · try dsimp only at hW
              go_simp
              try with_reducible rfl
            simp only [Act.put, List.setIfInBounds_toArray, List.set_cons_zero, List.set_cons_succ]
            refine ord_still 1 rfl (v := ?_) (by kernel_rfl) (fun _ _ _ h => h) rfl (fun W hW => ?_) hS ?_
            rotate_left
            · try dsimp only at hW
              go_simp
              try with_reducible rfl
            simp only [Act.put, List.setIfInBounds_toArray, List.set_cons_zero, List.set_cons_succ]
            refine ord_still 2 rfl (v := ?_) (by kernel_rfl) (fun _ _ _ h => h) rfl (fun W hW => ?_) hS ?_
            rotate_left
            · try dsimp only at hW
              go_simp
              try with_reducible rfl
            simp only [Act.put, List.setIfInBounds_toArray, List.set_cons_zero, List.set_cons_succ]
            refine ord_still 3 rfl (v := ?_) (by kernel_rfl) (fun _ _ _ h => h) rfl (fun W hW => ?_) hS ?_
            rotate_left
            · try dsimp only at hW
              go_simp
              try with_reducible rfl
            simp only [Act.put, List.setIfInBounds_toArray, List.set_cons_zero, List.set_cons_succ]
            refine ord_still 4 rfl (v := ?_) (by kernel_rfl) (fun _ _ _ h => h) rfl (fun W hW => ?_) hS ?_
            rotate_left
            · try dsimp only at hW
              go_simp
              try with_reducible rfl
            simp only [Act.put, List.setIfInBounds_toArray, List.set_cons_zero, List.set_cons_succ]
            refine ord_still 5 rfl (v := ?_) (by kernel_rfl) (fun _ _ _ h => h) rfl (fun W hW => ?_) hS ?_
            rotate_left
            · try dsimp only at hW
              go_simp
              try with_reducible rfl
            simp only [Act.put, List.setIfInBounds_toArray, List.set_cons_zero, List.set_cons_succ]
            refine ord_still 6 rfl (v := ?_) (by kernel_rfl) (fun _ _ _ h => h) rfl (fun W hW => ?_) hS ?_
            rotate_left
            · try dsimp only at hW
              go_simp
              try with_reducible rfl
            simp only [Act.put, List.setIfInBounds_toArray, List.set_cons_zero, List.set_cons_succ]
            refine ord_still 7 rfl (v := ?_) (by kernel_rfl) (fun _ _ _ h => h) rfl (fun W hW => ?_) hS ?_
            rotate_left
            · try dsimp only at hW
              go_simp
              try with_reducible rfl
            simp only [Act.put, List.setIfInBounds_toArray, List.set_cons_zero, List.set_cons_succ]
            refine ord_still 8 rfl (v := ?_) (by kernel_rfl) (fun _ _ _ h => h) rfl (fun W hW => ?_) hS ?_
            rotate_left
            · try dsimp only at hW
              go_simp
              try with_reducible rfl
            simp only [Act.put, List.setIfInBounds_toArray, List.set_cons_zero, List.set_cons_succ]
            refine ord_still 9 rfl (v := ?_) (by kernel_rfl) (fun _ _ _ h => h) rfl (fun W hW => ?_) hS ?_
            rotate_left
            · try dsimp only at hW
              go_simp
              try with_reducible rfl
            simp only [Act.put, List.setIfInBounds_toArray, List.set_cons_zero, List.set_cons_succ]
            refine ord_alone 10 rfl (by kernel_rfl) rfl (fun K hK => ?_)
            go_simp
            have hA : Below w2.heap.size w2 (w6.drew.alloc (.cells #[.int .u64 (y1 : Int), .int .u64 (y2 : Int), .int .i64 y3, .int .i64 (-1), .int .i64 y4] 44)) := HB6.out.drew.alloc HB6.out.size _
            have hBk : Blk (w6.drew.alloc (.cells #[.int .u64 (y1 : Int), .int .u64 (y2 : Int), .int .i64 y3, .int .i64 (-1), .int .i64 y4] 44)) w6.heap.size 44 (([(((y1, y2), y3), -1, y4)] : List Ch).flatMap chgEn) := Blk.new w6.drew _ _
            have hOA : Owns (w6.drew.alloc (.cells #[.int .u64 (y1 : Int), .int .u64 (y2 : Int), .int .i64 y3, .int .i64 (-1), .int .i64 y4] 44)) w2.heap.size 44 5 (.slice Ao nd co) nd (chsV D) := Owns.below HO6.out (((Below.refl _ _).drew).alloc (Nat.le_refl _) _)
            have HBS := hid HB6.out.size
            clear hS
            have hS : ((w6.drew.alloc (.cells #[.int .u64 (y1 : Int), .int .u64 (y2 : Int), .int .i64 y3, .int .i64 (-1), .int .i64 y4] 44)).cell? ⟨ba, oa, none⟩ = some (.int .u64 (x1 : Int)) ∧ (w6.drew.alloc (.cells #[.int .u64 (y1 : Int), .int .u64 (y2 : Int), .int .i64 y3, .int .i64 (-1), .int .i64 y4] 44)).cell? ⟨ba, oa + 1, none⟩ = some (.int .u64 (x2 : Int)) ∧ (w6.drew.alloc (.cells #[.int .u64 (y1 : Int), .int .u64 (y2 : Int), .int .i64 y3, .int .i64 (-1), .int .i64 y4] 44)).cell? ⟨ba, oa + 2, none⟩ = some (.int .i64 x3) ∧ (w6.drew.alloc (.cells #[.int .u64 (y1 : Int), .int .u64 (y2 : Int), .int .i64 y3, .int .i64 (-1), .int .i64 y4] 44)).cell? ⟨ba, oa + 3, none⟩ = some (.int .i64 x4)) ∧ ((w6.drew.alloc (.cells #[.int .u64 (y1 : Int), .int .u64 (y2 : Int), .int .i64 y3, .int .i64 (-1), .int .i64 y4] 44)).cell? ⟨bb, ob, none⟩ = some (.int .u64 (y1 : Int)) ∧ (w6.drew.alloc (.cells #[.int .u64 (y1 : Int), .int .u64 (y2 : Int), .int .i64 y3, .int .i64 (-1), .int .i64 y4] 44)).cell? ⟨bb, ob + 1, none⟩ = some (.int .u64 (y2 : Int)) ∧ (w6.drew.alloc (.cells #[.int .u64 (y1 : Int), .int .u64 (y2 : Int), .int .i64 y3, .int .i64 (-1), .int .i64 y4] 44)).cell? ⟨bb, ob + 2, none⟩ = some (.int .i64 y3) ∧ (w6.drew.alloc (.cells #[.int .u64 (y1 : Int), .int .u64 (y2 : Int), .int .i64 y3, .int .i64 (-1), .int .i64 y4] 44)).cell? ⟨bb, ob + 3, none⟩ = some (.int .i64 y4)) := ⟨HXC.out _ (hA), HYC.out _ (hA)⟩
            refine hK.out _ _ hS ?_
            clear hK
            refine ord_alone 11 rfl (by kernel_rfl) rfl (fun K hK => ?_)
            refine wp_append_rd _ _ 40 rfl 44 _ 5 40 Try.underlying40 dch_row rfl (by decide) w2.heap.size _ nd _ rfl hOA _ rfl ([(((y1, y2), y3), -1, y4)] : List Ch) (Rd.of_blk (l := ([(((y1, y2), y3), -1, y4)] : List Ch)) hBk chgEn_len (by unfold maxLen; simp)) chgEn_len cells_ch ?_ ?_ ?_ ?_
            · simp only [List.length_singleton]; unfold maxLen; omega
            · simp only [List.length_singleton]; omega
            · have := HBS.out; simp; omega
            intro v5 w5 hO hC
            have HB5 := hid (show Below w2.heap.size w2 w5 from hA.trans (hC.below (B := w2.heap.size) (by have := HBS.out; simp; omega) (fun i hi hh => by have := (Owns.base_le hOA i hh).1; omega)))
            have HO5 := hid hO
            clear hS
            have hS : (w5.cell? ⟨ba, oa, none⟩ = some (.int .u64 (x1 : Int)) ∧ w5.cell? ⟨ba, oa + 1, none⟩ = some (.int .u64 (x2 : Int)) ∧ w5.cell? ⟨ba, oa + 2, none⟩ = some (.int .i64 x3) ∧ w5.cell? ⟨ba, oa + 3, none⟩ = some (.int .i64 x4)) ∧ (w5.cell? ⟨bb, ob, none⟩ = some (.int .u64 (y1 : Int)) ∧ w5.cell? ⟨bb, ob + 1, none⟩ = some (.int .u64 (y2 : Int)) ∧ w5.cell? ⟨bb, ob + 2, none⟩ = some (.int .i64 y3) ∧ w5.cell? ⟨bb, ob + 3, none⟩ = some (.int .i64 y4)) := ⟨HXC.out _ (HB5.out), HYC.out _ (HB5.out)⟩
            clear hA hBk hOA hO hC HBS
            refine hK.out _ _ hS ?_
            clear hK
            refine ord_still 12 rfl (v := ?_) (by kernel_rfl) (fun _ _ _ h => h) rfl (fun W hW => ?_) hS ?_
            rotate_left
            · try dsimp only at hW
              go_simp
              try with_reducible rfl
            simp only [Act.put, List.setIfInBounds_toArray, List.set_cons_zero, List.set_cons_succ]
            refine ord_done (by kernel_rfl) ?_
            clear hS
            go_wp2_with fail
            go_roundw
            case rel => exact ⟨_, _, _, HST.out.takeR HND.out HE.out HO5.out HB5.out⟩
            case measure => have := HNB.out; simp [lenOf]; omega
          · have CG := hid (fun w => addr_less ((y1, y2), y3) ((x1, x2), x3) false (by rw [decide_eq_false (fun k => hgt ((cmp_lt _ _).1 k))]) w)
            by_cases hop : x4 = y4
            · have HE := hid (show mergeD ((((x1, x2), x3), x4) :: a) ((((y1, y2), y3), y4) :: b) = mergeD a b from by rw [HML.out, if_neg hlt, if_neg hgt, if_pos hop]; rfl)
              have hp1 : (x4 != y4) = false := by simp [hop]
              have hp2 : decide (x4 = y4) = true := by simp [hop]
              have hp3 : (x4 == y4) = true := by simp [hop]
              clear hlt hgt HML hop
              go_wp2_with fail
              have hS : (wr.drew.cell? ⟨ba, oa, none⟩ = some (.int .u64 (x1 : Int)) ∧ wr.drew.cell? ⟨ba, oa + 1, none⟩ = some (.int .u64 (x2 : Int)) ∧ wr.drew.cell? ⟨ba, oa + 2, none⟩ = some (.int .i64 x3) ∧ wr.drew.cell? ⟨ba, oa + 3, none⟩ = some (.int .i64 x4)) ∧ (wr.drew.cell? ⟨bb, ob, none⟩ = some (.int .u64 (y1 : Int)) ∧ wr.drew.cell? ⟨bb, ob + 1, none⟩ = some (.int .u64 (y2 : Int)) ∧ wr.drew.cell? ⟨bb, ob + 2, none⟩ = some (.int .i64 y3) ∧ wr.drew.cell? ⟨bb, ob + 3, none⟩ = some (.int .i64 y4)) := ⟨HXC.out _ (HB0.out.drew), HYC.out _ (HB0.out.drew)⟩
              refine wp_region_ord (fun w' => (w'.cell? ⟨ba, oa, none⟩ = some (.int .u64 (x1 : Int)) ∧ w'.cell? ⟨ba, oa + 1, none⟩ = some (.int .u64 (x2 : Int)) ∧ w'.cell? ⟨ba, oa + 2, none⟩ = some (.int .i64 x3) ∧ w'.cell? ⟨ba, oa + 3, none⟩ = some (.int .i64 x4)) ∧ (w'.cell? ⟨bb, ob, none⟩ = some (.int .u64 (y1 : Int)) ∧ w'.cell? ⟨bb, ob + 1, none⟩ = some (.int .u64 (y2 : Int)) ∧ w'.cell? ⟨bb, ob + 2, none⟩ = some (.int .i64 y3) ∧ w'.cell? ⟨bb, ob + 3, none⟩ = some (.int .i64 y4))) (by kernel_rfl) hS ?_
              refine ord_still 0 rfl (v := ?_) (by kernel_rfl) (fun _ _ _ h => h) rfl (fun W hW => ?_) hS ?_
              rotate_left
              · try dsimp only at hW
                go_simp
                try with_reducible rfl
              simp only [Act.put, List.setIfInBounds_toArray, List.set_cons_zero, List.set_cons_succ]
              refine ord_still 1 rfl (v := ?_) (by kernel_rfl) (fun _ _ _ h => h) rfl (fun W hW => ?_) hS ?_
              rotate_left
              · try dsimp only at hW
                go_simp
                try with_reducible rfl
              simp only [Act.put, List.setIfInBounds_toArray, List.set_cons_zero, List.set_cons_succ]
              refine ord_still 2 rfl (v := ?_) (by kernel_rfl) (fun _ _ _ h => h) rfl (fun W hW => ?_) hS ?_
              rotate_left
              · try dsimp only at hW
                go_simp
                try with_reducible rfl
              simp only [Act.put, List.setIfInBounds_toArray, List.set_cons_zero, List.set_cons_succ]
              refine ord_still 3 rfl (v := ?_) (by kernel_rfl) (fun _ _ _ h => h) rfl (fun W hW => ?_) hS ?_
              rotate_left
              · try dsimp only at hW
                go_simp
                try with_reducible rfl
              simp only [Act.put, List.setIfInBounds_toArray, List.set_cons_zero, List.set_cons_succ]
              refine ord_still 4 rfl (v := ?_) (by kernel_rfl) (fun _ _ _ h => h) rfl (fun W hW => ?_) hS ?_
              rotate_left
              · try dsimp only at hW
                go_simp
                try with_reducible rfl
              simp only [Act.put, List.setIfInBounds_toArray, List.set_cons_zero, List.set_cons_succ]
              refine ord_still 5 rfl (v := ?_) (by kernel_rfl) (fun _ _ _ h => h) rfl (fun W hW => ?_) hS ?_
              rotate_left
              · try dsimp only at hW
                go_simp
                try with_reducible rfl
              simp only [Act.put, List.setIfInBounds_toArray, List.set_cons_zero, List.set_cons_succ]
              refine ord_still 6 rfl (v := ?_) (by kernel_rfl) (fun _ _ _ h => h) rfl (fun W hW => ?_) hS ?_
              rotate_left
              · try dsimp only at hW
                go_simp
                try with_reducible rfl
              simp only [Act.put, List.setIfInBounds_toArray, List.set_cons_zero, List.set_cons_succ]
              refine ord_still 7 rfl (v := ?_) (by kernel_rfl) (fun _ _ _ h => h) rfl (fun W hW => ?_) hS ?_
              rotate_left
              · try dsimp only at hW
                go_simp
                try with_reducible rfl
              simp only [Act.put, List.setIfInBounds_toArray, List.set_cons_zero, List.set_cons_succ]
              refine ord_still 8 rfl (v := ?_) (by kernel_rfl) (fun _ _ _ h => h) rfl (fun W hW => ?_) hS ?_
              rotate_left
              · try dsimp only at hW
                go_simp
                try with_reducible rfl
              simp only [Act.put, List.setIfInBounds_toArray, List.set_cons_zero, List.set_cons_succ]
              refine ord_still 9 rfl (v := ?_) (by kernel_rfl) (fun _ _ _ h => h) rfl (fun W hW => ?_) hS ?_
              rotate_left
              · try dsimp only at hW
                go_simp
                try with_reducible rfl
              simp only [Act.put, List.setIfInBounds_toArray, List.set_cons_zero, List.set_cons_succ]
              refine ord_still 10 rfl (v := ?_) (by kernel_rfl) (fun _ _ _ h => h) rfl (fun W hW => ?_) hS ?_
              rotate_left
              · try dsimp only at hW
                go_simp
                try with_reducible rfl
              simp only [Act.put, List.setIfInBounds_toArray, List.set_cons_zero, List.set_cons_succ]
              refine ord_still 11 rfl (v := ?_) (by kernel_rfl) (fun _ _ _ h => h) rfl (fun W hW => ?_) hS ?_
              rotate_left
              · try dsimp only at hW
                go_simp
                try with_reducible rfl
              simp only [Act.put, List.setIfInBounds_toArray, List.set_cons_zero, List.set_cons_succ]
              refine ord_still 12 rfl (v := ?_) (by kernel_rfl) (fun _ _ _ h => h) rfl (fun W hW => ?_) hS ?_
              rotate_left
              · try dsimp only at hW
                go_simp
                try with_reducible rfl
              simp only [Act.put, List.setIfInBounds_toArray, List.set_cons_zero, List.set_cons_succ]
              refine ord_still 13 rfl (v := ?_) (by kernel_rfl) (fun _ _ _ h => h) rfl (fun W hW => ?_) hS ?_
              rotate_left
              · try dsimp only at hW
                go_simp
                try with_reducible rfl
              simp only [Act.put, List.setIfInBounds_toArray, List.set_cons_zero, List.set_cons_succ]
              refine ord_still 14 rfl (v := ?_) (by kernel_rfl) (fun _ _ _ h => h) rfl (fun W hW => ?_) hS ?_
              rotate_left
              · try dsimp only at hW
                go_simp
                try with_reducible rfl
              simp only [Act.put, List.setIfInBounds_toArray, List.set_cons_zero, List.set_cons_succ]
              refine ord_still 15 rfl (v := ?_) (by kernel_rfl) (fun _ _ _ h => h) rfl (fun W hW => ?_) hS ?_
              rotate_left
              · try dsimp only at hW
                go_simp
                try with_reducible rfl
              simp only [Act.put, List.setIfInBounds_toArray, List.set_cons_zero, List.set_cons_succ]
              refine ord_alone 16 rfl (by kernel_rfl) rfl (fun K hK => ?_)
              go_simp
              refine (CL.out _).mono ?_
              rintro _ w4 ⟨rfl, hb⟩
              have HB4 := hid (held_next HB0.out.drew hb)
              have HO4 := hid (Owns.below HO0.out (((Below.refl _ _).drew).trans hb))
              clear hS
              have hS : (w4.cell? ⟨ba, oa, none⟩ = some (.int .u64 (x1 : Int)) ∧ w4.cell? ⟨ba, oa + 1, none⟩ = some (.int .u64 (x2 : Int)) ∧ w4.cell? ⟨ba, oa + 2, none⟩ = some (.int .i64 x3) ∧ w4.cell? ⟨ba, oa + 3, none⟩ = some (.int .i64 x4)) ∧ (w4.cell? ⟨bb, ob, none⟩ = some (.int .u64 (y1 : Int)) ∧ w4.cell? ⟨bb, ob + 1, none⟩ = some (.int .u64 (y2 : Int)) ∧ w4.cell? ⟨bb, ob + 2, none⟩ = some (.int .i64 y3) ∧ w4.cell? ⟨bb, ob + 3, none⟩ = some (.int .i64 y4)) := ⟨HXC.out _ (HB4.out), HYC.out _ (HB4.out)⟩
              clear hb
              refine hK.out _ _ hS ?_
              clear hK
              refine ord_still 17 rfl (v := ?_) (by kernel_rfl) (fun _ _ _ h => h) rfl (fun W hW => ?_) hS ?_
              rotate_left
              · try dsimp only at hW
                go_simp
                try with_reducible rfl
              simp only [Act.put, List.setIfInBounds_toArray, List.set_cons_zero, List.set_cons_succ]
              refine ord_still 18 rfl (v := ?_) (by kernel_rfl) (fun _ _ _ h => h) rfl (fun W hW => ?_) hS ?_
              rotate_left
              · try dsimp only at hW
                go_simp
                try with_reducible rfl
              simp only [Act.put, List.setIfInBounds_toArray, List.set_cons_zero, List.set_cons_succ]
              refine ord_still 19 rfl (v := ?_) (by kernel_rfl) (fun _ _ _ h => h) rfl (fun W hW => ?_) hS ?_
              rotate_left
              · try dsimp only at hW
                go_simp
                try with_reducible rfl
              simp only [Act.put, List.setIfInBounds_toArray, List.set_cons_zero, List.set_cons_succ]
              refine ord_done (by kernel_rfl) ?_
              clear hS
              go_wp2_with fail
              have hS : (w4.drew.cell? ⟨ba, oa, none⟩ = some (.int .u64 (x1 : Int)) ∧ w4.drew.cell? ⟨ba, oa + 1, none⟩ = some (.int .u64 (x2 : Int)) ∧ w4.drew.cell? ⟨ba, oa + 2, none⟩ = some (.int .i64 x3) ∧ w4.drew.cell? ⟨ba, oa + 3, none⟩ = some (.int .i64 x4)) ∧ (w4.drew.cell? ⟨bb, ob, none⟩ = some (.int .u64 (y1 : Int)) ∧ w4.drew.cell? ⟨bb, ob + 1, none⟩ = some (.int .u64 (y2 : Int)) ∧ w4.drew.cell? ⟨bb, ob + 2, none⟩ = some (.int .i64 y3) ∧ w4.drew.cell? ⟨bb, ob + 3, none⟩ = some (.int .i64 y4)) := ⟨HXC.out _ (HB4.out.drew), HYC.out _ (HB4.out.drew)⟩
              refine wp_region_ord (fun w' => (w'.cell? ⟨ba, oa, none⟩ = some (.int .u64 (x1 : Int)) ∧ w'.cell? ⟨ba, oa + 1, none⟩ = some (.int .u64 (x2 : Int)) ∧ w'.cell? ⟨ba, oa + 2, none⟩ = some (.int .i64 x3) ∧ w'.cell? ⟨ba, oa + 3, none⟩ = some (.int .i64 x4)) ∧ (w'.cell? ⟨bb, ob, none⟩ = some (.int .u64 (y1 : Int)) ∧ w'.cell? ⟨bb, ob + 1, none⟩ = some (.int .u64 (y2 : Int)) ∧ w'.cell? ⟨bb, ob + 2, none⟩ = some (.int .i64 y3) ∧ w'.cell? ⟨bb, ob + 3, none⟩ = some (.int .i64 y4))) (by kernel_rfl) hS ?_
              refine ord_still 0 rfl (v := ?_) (by kernel_rfl) (fun _ _ _ h => h) rfl (fun W hW => ?_) hS ?_
              rotate_left
              · try dsimp only at hW
                go_simp
                try with_reducible rfl
              simp only [Act.put, List.setIfInBounds_toArray, List.set_cons_zero, List.set_cons_succ]
              refine ord_still 1 rfl (v := ?_) (by kernel_rfl) (fun _ _ _ h => h) rfl (fun W hW => ?_) hS ?_
              rotate_left
              · try dsimp only at hW
                go_simp
                try with_reducible rfl
              simp only [Act.put, List.setIfInBounds_toArray, List.set_cons_zero, List.set_cons_succ]
              refine ord_still 2 rfl (v := ?_) (by kernel_rfl) (fun _ _ _ h => h) rfl (fun W hW => ?_) hS ?_
              rotate_left
              · try dsimp only at hW
                go_simp
                try with_reducible rfl
              simp only [Act.put, List.setIfInBounds_toArray, List.set_cons_zero, List.set_cons_succ]
              refine ord_still 3 rfl (v := ?_) (by kernel_rfl) (fun _ _ _ h => h) rfl (fun W hW => ?_) hS ?_
              rotate_left
              · try dsimp only at hW
                go_simp
                try with_reducible rfl
              simp only [Act.put, List.setIfInBounds_toArray, List.set_cons_zero, List.set_cons_succ]
              refine ord_still 4 rfl (v := ?_) (by kernel_rfl) (fun _ _ _ h => h) rfl (fun W hW => ?_) hS ?_
              rotate_left
              · try dsimp only at hW
                go_simp
                try with_reducible rfl
              simp only [Act.put, List.setIfInBounds_toArray, List.set_cons_zero, List.set_cons_succ]
              refine ord_still 5 rfl (v := ?_) (by kernel_rfl) (fun _ _ _ h => h) rfl (fun W hW => ?_) hS ?_
              rotate_left
              · try dsimp only at hW
                go_simp
                try with_reducible rfl
              simp only [Act.put, List.setIfInBounds_toArray, List.set_cons_zero, List.set_cons_succ]
              refine ord_still 6 rfl (v := ?_) (by kernel_rfl) (fun _ _ _ h => h) rfl (fun W hW => ?_) hS ?_
              rotate_left
              · try dsimp only at hW
                go_simp
                try with_reducible rfl
              simp only [Act.put, List.setIfInBounds_toArray, List.set_cons_zero, List.set_cons_succ]
              refine ord_still 7 rfl (v := ?_) (by kernel_rfl) (fun _ _ _ h => h) rfl (fun W hW => ?_) hS ?_
              rotate_left
              · try dsimp only at hW
                go_simp
                try with_reducible rfl
              simp only [Act.put, List.setIfInBounds_toArray, List.set_cons_zero, List.set_cons_succ]
              refine ord_still 8 rfl (v := ?_) (by kernel_rfl) (fun _ _ _ h => h) rfl (fun W hW => ?_) hS ?_
              rotate_left
              · try dsimp only at hW
                go_simp
                try with_reducible rfl
              simp only [Act.put, List.setIfInBounds_toArray, List.set_cons_zero, List.set_cons_succ]
              refine ord_still 9 rfl (v := ?_) (by kernel_rfl) (fun _ _ _ h => h) rfl (fun W hW => ?_) hS ?_
              rotate_left
              · try dsimp only at hW
                go_simp
                try with_reducible rfl
              simp only [Act.put, List.setIfInBounds_toArray, List.set_cons_zero, List.set_cons_succ]
              refine ord_still 10 rfl (v := ?_) (by kernel_rfl) (fun _ _ _ h => h) rfl (fun W hW => ?_) hS ?_
              rotate_left
              · try dsimp only at hW
                go_simp
                try with_reducible rfl
              simp only [Act.put, List.setIfInBounds_toArray, List.set_cons_zero, List.set_cons_succ]
              refine ord_still 11 rfl (v := ?_) (by kernel_rfl) (fun _ _ _ h => h) rfl (fun W hW => ?_) hS ?_
              rotate_left
              · try dsimp only at hW
                go_simp
                try with_reducible rfl
              simp only [Act.put, List.setIfInBounds_toArray, List.set_cons_zero, List.set_cons_succ]
              refine ord_alone 12 rfl (by kernel_rfl) rfl (fun K hK => ?_)
              go_simp
              refine (CG.out _).mono ?_
              rintro _ w6 ⟨rfl, hb⟩
              have HB6 := hid (held_next HB4.out.drew hb)
              have HO6 := hid (Owns.below HO4.out (((Below.refl _ _).drew).trans hb))
              clear hS
              have hS : (w6.cell? ⟨ba, oa, none⟩ = some (.int .u64 (x1 : Int)) ∧ w6.cell? ⟨ba, oa + 1, none⟩ = some (.int .u64 (x2 : Int)) ∧ w6.cell? ⟨ba, oa + 2, none⟩ = some (.int .i64 x3) ∧ w6.cell? ⟨ba, oa + 3, none⟩ = some (.int .i64 x4)) ∧ (w6.cell? ⟨bb, ob, none⟩ = some (.int .u64 (y1 : Int)) ∧ w6.cell? ⟨bb, ob + 1, none⟩ = some (.int .u64 (y2 : Int)) ∧ w6.cell? ⟨bb, ob + 2, none⟩ = some (.int .i64 y3) ∧ w6.cell? ⟨bb, ob + 3, none⟩ = some (.int .i64 y4)) := ⟨HXC.out _ (HB6.out), HYC.out _ (HB6.out)⟩
              clear hb
              refine hK.out _ _ hS ?_
              clear hK
              refine ord_still 13 rfl (v := ?_) (by kernel_rfl) (fun _ _ _ h => h) rfl (fun W hW => ?_) hS ?_
              rotate_left
              · try dsimp only at hW
                go_simp
                try with_reducible rfl
              simp only [Act.put, List.setIfInBounds_toArray, List.set_cons_zero, List.set_cons_succ]
              refine ord_still 14 rfl (v := ?_) (by kernel_rfl) (fun _ _ _ h => h) rfl (fun W hW => ?_) hS ?_
              rotate_left
              · try dsimp only at hW
                go_simp
                try with_reducible rfl
              simp only [Act.put, List.setIfInBounds_toArray, List.set_cons_zero, List.set_cons_succ]
              refine ord_done (by kernel_rfl) ?_
              clear hS
              go_wp2_with fail
              have hS : (w6.drew.cell? ⟨ba, oa, none⟩ = some (.int .u64 (x1 : Int)) ∧ w6.drew.cell? ⟨ba, oa + 1, none⟩ = some (.int .u64 (x2 : Int)) ∧ w6.drew.cell? ⟨ba, oa + 2, none⟩ = some (.int .i64 x3) ∧ w6.drew.cell? ⟨ba, oa + 3, none⟩ = some (.int .i64 x4)) ∧ (w6.drew.cell? ⟨bb, ob, none⟩ = some (.int .u64 (y1 : Int)) ∧ w6.drew.cell? ⟨bb, ob + 1, none⟩ = some (.int .u64 (y2 : Int)) ∧ w6.drew.cell? ⟨bb, ob + 2, none⟩ = some (.int .i64 y3) ∧ w6.drew.cell? ⟨bb, ob + 3, none⟩ = some (.int .i64 y4)) := ⟨HXC.out _ (HB6.out.drew), HYC.out _ (HB6.out.drew)⟩
              refine wp_region_ord (fun w' => (w'.cell? ⟨ba, oa, none⟩ = some (.int .u64 (x1 : Int)) ∧ w'.cell? ⟨ba, oa + 1, none⟩ = some (.int .u64 (x2 : Int)) ∧ w'.cell? ⟨ba, oa + 2, none⟩ = some (.int .i64 x3) ∧ w'.cell? ⟨ba, oa + 3, none⟩ = some (.int .i64 x4)) ∧ (w'.cell? ⟨bb, ob, none⟩ = some (.int .u64 (y1 : Int)) ∧ w'.cell? ⟨bb, ob + 1, none⟩ = some (.int .u64 (y2 : Int)) ∧ w'.cell? ⟨bb, ob + 2, none⟩ = some (.int .i64 y3) ∧ w'.cell? ⟨bb, ob + 3, none⟩ = some (.int .i64 y4))) (by kernel_rfl) hS ?_
              refine ord_still 0 rfl (v := ?_) (by kernel_rfl) (fun _ _ _ h => h) rfl (fun W hW => ?_) hS ?_
              rotate_left
              · try dsimp only at hW
                go_simp
                try with_reducible rfl
              simp only [Act.put, List.setIfInBounds_toArray, List.set_cons_zero, List.set_cons_succ]
              refine ord_still 1 rfl (v := ?_) (by kernel_rfl) (fun _ _ _ h => h) rfl (fun W hW => ?_) hS ?_
              rotate_left
              · try dsimp only at hW
                go_simp
                try with_reducible rfl
              simp only [Act.put, List.setIfInBounds_toArray, List.set_cons_zero, List.set_cons_succ]
              refine ord_still 2 rfl (v := ?_) (by kernel_rfl) (fun _ _ _ h => h) rfl (fun W hW => ?_) hS ?_
              rotate_left
              · try dsimp only at hW
                go_simp
                try with_reducible rfl
              simp only [Act.put, List.setIfInBounds_toArray, List.set_cons_zero, List.set_cons_succ]
              refine ord_still 3 rfl (v := ?_) (by kernel_rfl) (fun _ _ _ h => h) rfl (fun W hW => ?_) hS ?_
              rotate_left
              · try dsimp only at hW
                go_simp
                try with_reducible rfl
              simp only [Act.put, List.setIfInBounds_toArray, List.set_cons_zero, List.set_cons_succ]
              refine ord_still 4 rfl (v := ?_) (by kernel_rfl) (fun _ _ _ h => h) rfl (fun W hW => ?_) hS ?_
              rotate_left
              · try dsimp only at hW
                go_simp
                try with_reducible rfl
              simp only [Act.put, List.setIfInBounds_toArray, List.set_cons_zero, List.set_cons_succ]
              refine ord_still 5 rfl (v := ?_) (by kernel_rfl) (fun _ _ _ h => h) rfl (fun W hW => ?_) hS ?_
              rotate_left
              · try dsimp only at hW
                go_simp
                try with_reducible rfl
              simp only [Act.put, List.setIfInBounds_toArray, List.set_cons_zero, List.set_cons_succ]
              refine ord_still 6 rfl (v := ?_) (by kernel_rfl) (fun _ _ _ h => h) rfl (fun W hW => ?_) hS ?_
              rotate_left
              · try dsimp only at hW
                go_simp
                try with_reducible rfl
              simp only [Act.put, List.setIfInBounds_toArray, List.set_cons_zero, List.set_cons_succ]
              refine ord_still 7 rfl (v := ?_) (by kernel_rfl) (fun _ _ _ h => h) rfl (fun W hW => ?_) hS ?_
              rotate_left
              · try dsimp only at hW
                go_simp
                try with_reducible rfl
              simp only [Act.put, List.setIfInBounds_toArray, List.set_cons_zero, List.set_cons_succ]
              refine ord_still 8 rfl (v := ?_) (by kernel_rfl) (fun _ _ _ h => h) rfl (fun W hW => ?_) hS ?_
              rotate_left
              · try dsimp only at hW
                go_simp
                try with_reducible rfl
              simp only [Act.put, List.setIfInBounds_toArray, List.set_cons_zero, List.set_cons_succ]
              refine ord_done (by kernel_rfl) ?_
              clear hS
              go_wp2_with fail
              have hS : (w6.drew.drew.cell? ⟨ba, oa, none⟩ = some (.int .u64 (x1 : Int)) ∧ w6.drew.drew.cell? ⟨ba, oa + 1, none⟩ = some (.int .u64 (x2 : Int)) ∧ w6.drew.drew.cell? ⟨ba, oa + 2, none⟩ = some (.int .i64 x3) ∧ w6.drew.drew.cell? ⟨ba, oa + 3, none⟩ = some (.int .i64 x4)) ∧ (w6.drew.drew.cell? ⟨bb, ob, none⟩ = some (.int .u64 (y1 : Int)) ∧ w6.drew.drew.cell? ⟨bb, ob + 1, none⟩ = some (.int .u64 (y2 : Int)) ∧ w6.drew.drew.cell? ⟨bb, ob + 2, none⟩ = some (.int .i64 y3) ∧ w6.drew.drew.cell? ⟨bb, ob + 3, none⟩ = some (.int .i64 y4)) := ⟨HXC.out _ (HB6.out.drew.drew), HYC.out _ (HB6.out.drew.drew)⟩
              refine wp_region_ord (fun w' => (w'.cell? ⟨ba, oa, none⟩ = some (.int .u64 (x1 : Int)) ∧ w'.cell? ⟨ba, oa + 1, none⟩ = some (.int .u64 (x2 : Int)) ∧ w'.cell? ⟨ba, oa + 2, none⟩ = some (.int .i64 x3) ∧ w'.cell? ⟨ba, oa + 3, none⟩ = some (.int .i64 x4)) ∧ (w'.cell? ⟨bb, ob, none⟩ = some (.int .u64 (y1 : Int)) ∧ w'.cell? ⟨bb, ob + 1, none⟩ = some (.int .u64 (y2 : Int)) ∧ w'.cell? ⟨bb, ob + 2, none⟩ = some (.int .i64 y3) ∧ w'.cell? ⟨bb, ob + 3, none⟩ = some (.int .i64 y4))) (by kernel_rfl) hS ?_
              refine ord_still 0 rfl (v := ?_) (by kernel_rfl) (fun _ _ _ h => h) rfl (fun W hW => ?_) hS ?_
              rotate_left
              · try dsimp only at hW
                go_simp
                try with_reducible rfl
              simp only [Act.put, List.setIfInBounds_toArray, List.set_cons_zero, List.set_cons_succ]
              refine ord_still 1 rfl (v := ?_) (by kernel_rfl) (fun _ _ _ h => h) rfl (fun W hW => ?_) hS ?_
              rotate_left
              · try dsimp only at hW
                go_simp
                try with_reducible rfl
              simp only [Act.put, List.setIfInBounds_toArray, List.set_cons_zero, List.set_cons_succ]
              refine ord_still 2 rfl (v := ?_) (by kernel_rfl) (fun _ _ _ h => h) rfl (fun W hW => ?_) hS ?_
              rotate_left
              · try dsimp only at hW
                go_simp
                try with_reducible rfl
              simp only [Act.put, List.setIfInBounds_toArray, List.set_cons_zero, List.set_cons_succ]
              refine ord_still 3 rfl (v := ?_) (by kernel_rfl) (fun _ _ _ h => h) rfl (fun W hW => ?_) hS ?_
              rotate_left
              · try dsimp only at hW
                go_simp
                try with_reducible rfl
              simp only [Act.put, List.setIfInBounds_toArray, List.set_cons_zero, List.set_cons_succ]
              refine ord_still 4 rfl (v := ?_) (by kernel_rfl) (fun _ _ _ h => h) rfl (fun W hW => ?_) hS ?_
              rotate_left
              · try dsimp only at hW
                go_simp
                try with_reducible rfl
              simp only [Act.put, List.setIfInBounds_toArray, List.set_cons_zero, List.set_cons_succ]
              refine ord_still 5 rfl (v := ?_) (by kernel_rfl) (fun _ _ _ h => h) rfl (fun W hW => ?_) hS ?_
              rotate_left
              · try dsimp only at hW
                go_simp
                try with_reducible rfl
              simp only [Act.put, List.setIfInBounds_toArray, List.set_cons_zero, List.set_cons_succ]
              refine ord_done (by kernel_rfl) ?_
              clear hS
              go_wp2_with fail
              go_roundw
              case rel => exact ⟨_, _, _, HST.out.skipB (vo' := .slice none 0 0) HE.out (by rw [HND.out]; exact HO6.out) HB6.out.drew.drew⟩
              case measure => have := HNA.out; simp [lenOf]; omega
            · have HE := hid (show mergeD ((((x1, x2), x3), x4) :: a) ((((y1, y2), y3), y4) :: b) = (((x1, x2), x3), x4, y4) :: mergeD a b from by rw [HML.out, if_neg hlt, if_neg hgt, if_neg hop]; rfl)
              have hp1 : (x4 != y4) = true := by simp [hop]
              have hp2 : decide (x4 = y4) = false := by simp [hop]
              have hp3 : (x4 == y4) = false := by simp [hop]
              have hp4 : ¬ x4 = y4 := hop
              clear hlt hgt HML hop
              go_wp2_with fail
              have hS : (wr.drew.cell? ⟨ba, oa, none⟩ = some (.int .u64 (x1 : Int)) ∧ wr.drew.cell? ⟨ba, oa + 1, none⟩ = some (.int .u64 (x2 : Int)) ∧ wr.drew.cell? ⟨ba, oa + 2, none⟩ = some (.int .i64 x3) ∧ wr.drew.cell? ⟨ba, oa + 3, none⟩ = some (.int .i64 x4)) ∧ (wr.drew.cell? ⟨bb, ob, none⟩ = some (.int .u64 (y1 : Int)) ∧ wr.drew.cell? ⟨bb, ob + 1, none⟩ = some (.int .u64 (y2 : Int)) ∧ wr.drew.cell? ⟨bb, ob + 2, none⟩ = some (.int .i64 y3) ∧ wr.drew.cell? ⟨bb, ob + 3, none⟩ = some (.int .i64 y4)) := ⟨HXC.out _ (HB0.out.drew), HYC.out _ (HB0.out.drew)⟩
              refine wp_region_ord (fun w' => (w'.cell? ⟨ba, oa, none⟩ = some (.int .u64 (x1 : Int)) ∧ w'.cell? ⟨ba, oa + 1, none⟩ = some (.int .u64 (x2 : Int)) ∧ w'.cell? ⟨ba, oa + 2, none⟩ = some (.int .i64 x3) ∧ w'.cell? ⟨ba, oa + 3, none⟩ = some (.int .i64 x4)) ∧ (w'.cell? ⟨bb, ob, none⟩ = some (.int .u64 (y1 : Int)) ∧ w'.cell? ⟨bb, ob + 1, none⟩ = some (.int .u64 (y2 : Int)) ∧ w'.cell? ⟨bb, ob + 2, none⟩ = some (.int .i64 y3) ∧ w'.cell? ⟨bb, ob + 3, none⟩ = some (.int .i64 y4))) (by kernel_rfl) hS ?_
              refine ord_still 0 rfl (v := ?_) (by kernel_rfl) (fun _ _ _ h => h) rfl (fun W hW => ?_) hS ?_
              rotate_left
              · try dsimp only at hW
                go_simp
                try with_reducible rfl
              simp only [Act.put, List.setIfInBounds_toArray, List.set_cons_zero, List.set_cons_succ]
              refine ord_still 1 rfl (v := ?_) (by kernel_rfl) (fun _ _ _ h => h) rfl (fun W hW => ?_) hS ?_
              rotate_left
              · try dsimp only at hW
                go_simp
                try with_reducible rfl
              simp only [Act.put, List.setIfInBounds_toArray, List.set_cons_zero, List.set_cons_succ]
              refine ord_still 2 rfl (v := ?_) (by kernel_rfl) (fun _ _ _ h => h) rfl (fun W hW => ?_) hS ?_
              rotate_left
              · try dsimp only at hW
                go_simp
                try with_reducible rfl
              simp only [Act.put, List.setIfInBounds_toArray, List.set_cons_zero, List.set_cons_succ]
              refine ord_still 3 rfl (v := ?_) (by kernel_rfl) (fun _ _ _ h => h) rfl (fun W hW => ?_) hS ?_
              rotate_left
              · try dsimp only at hW
                go_simp
                try with_reducible rfl
              simp only [Act.put, List.setIfInBounds_toArray, List.set_cons_zero, List.set_cons_succ]
              refine ord_still 4 rfl (v := ?_) (by kernel_rfl) (fun _ _ _ h => h) rfl (fun W hW => ?_) hS ?_
              rotate_left
              · try dsimp only at hW
                go_simp
                try with_reducible rfl
              simp only [Act.put, List.setIfInBounds_toArray, List.set_cons_zero, List.set_cons_succ]
              refine ord_still 5 rfl (v := ?_) (by kernel_rfl) (fun _ _ _ h => h) rfl (fun W hW => ?_) hS ?_
              rotate_left
              · try dsimp only at hW
                go_simp
                try with_reducible rfl
              simp only [Act.put, List.setIfInBounds_toArray, List.set_cons_zero, List.set_cons_succ]
              refine ord_still 6 rfl (v := ?_) (by kernel_rfl) (fun _ _ _ h => h) rfl (fun W hW => ?_) hS ?_
              rotate_left
              · try dsimp only at hW
                go_simp
                try with_reducible rfl
              simp only [Act.put, List.setIfInBounds_toArray, List.set_cons_zero, List.set_cons_succ]
              refine ord_still 7 rfl (v := ?_) (by kernel_rfl) (fun _ _ _ h => h) rfl (fun W hW => ?_) hS ?_
              rotate_left
              · try dsimp only at hW
                go_simp
                try with_reducible rfl
              simp only [Act.put, List.setIfInBounds_toArray, List.set_cons_zero, List.set_cons_succ]
              refine ord_still 8 rfl (v := ?_) (by kernel_rfl) (fun _ _ _ h => h) rfl (fun W hW => ?_) hS ?_
              rotate_left
              · try dsimp only at hW
                go_simp
                try with_reducible rfl
              simp only [Act.put, List.setIfInBounds_toArray, List.set_cons_zero, List.set_cons_succ]
              refine ord_still 9 rfl (v := ?_) (by kernel_rfl) (fun _ _ _ h => h) rfl (fun W hW => ?_) hS ?_
              rotate_left
              · try dsimp only at hW
                go_simp
                try with_reducible rfl
              simp only [Act.put, List.setIfInBounds_toArray, List.set_cons_zero, List.set_cons_succ]
              refine ord_still 10 rfl (v := ?_) (by kernel_rfl) (fun _ _ _ h => h) rfl (fun W hW => ?_) hS ?_
              rotate_left
              · try dsimp only at hW
                go_simp
                try with_reducible rfl
              simp only [Act.put, List.setIfInBounds_toArray, List.set_cons_zero, List.set_cons_succ]
              refine ord_still 11 rfl (v := ?_) (by kernel_rfl) (fun _ _ _ h => h) rfl (fun W hW => ?_) hS ?_
              rotate_left
              · try dsimp only at hW
                go_simp
                try with_reducible rfl
              simp only [Act.put, List.setIfInBounds_toArray, List.set_cons_zero, List.set_cons_succ]
              refine ord_still 12 rfl (v := ?_) (by kernel_rfl) (fun _ _ _ h => h) rfl (fun W hW => ?_) hS ?_
              rotate_left
              · try dsimp only at hW
                go_simp
                try with_reducible rfl
              simp only [Act.put, List.setIfInBounds_toArray, List.set_cons_zero, List.set_cons_succ]
              refine ord_still 13 rfl (v := ?_) (by kernel_rfl) (fun _ _ _ h => h) rfl (fun W hW => ?_) hS ?_
              rotate_left
              · try dsimp only at hW
                go_simp
                try with_reducible rfl
              simp only [Act.put, List.setIfInBounds_toArray, List.set_cons_zero, List.set_cons_succ]
              refine ord_still 14 rfl (v := ?_) (by kernel_rfl) (fun _ _ _ h => h) rfl (fun W hW => ?_) hS ?_
              rotate_left
              · try dsimp only at hW
                go_simp
                try with_reducible rfl
              simp only [Act.put, List.setIfInBounds_toArray, List.set_cons_zero, List.set_cons_succ]
              refine ord_still 15 rfl (v := ?_) (by kernel_rfl) (fun _ _ _ h => h) rfl (fun W hW => ?_) hS ?_
              rotate_left
              · try dsimp only at hW
                go_simp
                try with_reducible rfl
              simp only [Act.put, List.setIfInBounds_toArray, List.set_cons_zero, List.set_cons_succ]
              refine ord_alone 16 rfl (by kernel_rfl) rfl (fun K hK => ?_)
              go_simp
              refine (CL.out _).mono ?_
              rintro _ w4 ⟨rfl, hb⟩
              have HB4 := hid (held_next HB0.out.drew hb)
              have HO4 := hid (Owns.below HO0.out (((Below.refl _ _).drew).trans hb))
              clear hS
              have hS : (w4.cell? ⟨ba, oa, none⟩ = some (.int .u64 (x1 : Int)) ∧ w4.cell? ⟨ba, oa + 1, none⟩ = some (.int .u64 (x2 : Int)) ∧ w4.cell? ⟨ba, oa + 2, none⟩ = some (.int .i64 x3) ∧ w4.cell? ⟨ba, oa + 3, none⟩ = some (.int .i64 x4)) ∧ (w4.cell? ⟨bb, ob, none⟩ = some (.int .u64 (y1 : Int)) ∧ w4.cell? ⟨bb, ob + 1, none⟩ = some (.int .u64 (y2 : Int)) ∧ w4.cell? ⟨bb, ob + 2, none⟩ = some (.int .i64 y3) ∧ w4.cell? ⟨bb, ob + 3, none⟩ = some (.int .i64 y4)) := ⟨HXC.out _ (HB4.out), HYC.out _ (HB4.out)⟩
              clear hb
              refine hK.out _ _ hS ?_
              clear hK
              refine ord_still 17 rfl (v := ?_) (by kernel_rfl) (fun _ _ _ h => h) rfl (fun W hW => ?_) hS ?_
              rotate_left
              · try dsimp only at hW
                go_simp
                try with_reducible rfl
              simp only [Act.put, List.setIfInBounds_toArray, List.set_cons_zero, List.set_cons_succ]
              refine ord_still 18 rfl (v := ?_) (by kernel_rfl) (fun _ _ _ h => h) rfl (fun W hW => ?_) hS ?_
              rotate_left
              · try dsimp only at hW
                go_simp
                try with_reducible rfl
              simp only [Act.put, List.setIfInBounds_toArray, List.set_cons_zero, List.set_cons_succ]
              refine ord_still 19 rfl (v := ?_) (by kernel_rfl) (fun _ _ _ h => h) rfl (fun W hW => ?_) hS ?_
              rotate_left
              · try dsimp only at hW
                go_simp
                try with_reducible rfl
              simp only [Act.put, List.setIfInBounds_toArray, List.set_cons_zero, List.set_cons_succ]
              refine ord_done (by kernel_rfl) ?_
              clear hS
              go_wp2_with fail
              have hS : (w4.drew.cell? ⟨ba, oa, none⟩ = some (.int .u64 (x1 : Int)) ∧ w4.drew.cell? ⟨ba, oa + 1, none⟩ = some (.int .u64 (x2 : Int)) ∧ w4.drew.cell? ⟨ba, oa + 2, none⟩ = some (.int .i64 x3) ∧ w4.drew.cell? ⟨ba, oa + 3, none⟩ = some (.int .i64 x4)) ∧ (w4.drew.cell? ⟨bb, ob, none⟩ = some (.int .u64 (y1 : Int)) ∧ w4.drew.cell? ⟨bb, ob + 1, none⟩ = some (.int .u64 (y2 : Int)) ∧ w4.drew.cell? ⟨bb, ob + 2, none⟩ = some (.int .i64 y3) ∧ w4.drew.cell? ⟨bb, ob + 3, none⟩ = some (.int .i64 y4)) := ⟨HXC.out _ (HB4.out.drew), HYC.out _ (HB4.out.drew)⟩
              refine wp_region_ord (fun w' => (w'.cell? ⟨ba, oa, none⟩ = some (.int .u64 (x1 : Int)) ∧ w'.cell? ⟨ba, oa + 1, none⟩ = some (.int .u64 (x2 : Int)) ∧ w'.cell? ⟨ba, oa + 2, none⟩ = some (.int .i64 x3) ∧ w'.cell? ⟨ba, oa + 3, none⟩ = some (.int .i64 x4)) ∧ (w'.cell? ⟨bb, ob, none⟩ = some (.int .u64 (y1 : Int)) ∧ w'.cell? ⟨bb, ob + 1, none⟩ = some (.int .u64 (y2 : Int)) ∧ w'.cell? ⟨bb, ob + 2, none⟩ = some (.int .i64 y3) ∧ w'.cell? ⟨bb, ob + 3, none⟩ = some (.int .i64 y4))) (by kernel_rfl) hS ?_
              refine ord_still 0 rfl (v := ?_) (by kernel_rfl) (fun _ _ _ h => h) rfl (fun W hW => ?_) hS ?_
              rotate_left
              · try dsimp only at hW
                go_simp
                try with_reducible rfl
              simp only [Act.put, List.setIfInBounds_toArray, List.set_cons_zero, List.set_cons_succ]
              refine ord_still 1 rfl (v := ?_) (by kernel_rfl) (fun _ _ _ h => h) rfl (fun W hW => ?_) hS ?_
              rotate_left
              · try dsimp only at hW
                go_simp
                try with_reducible rfl
              simp only [Act.put, List.setIfInBounds_toArray, List.set_cons_zero, List.set_cons_succ]
              refine ord_still 2 rfl (v := ?_) (by kernel_rfl) (fun _ _ _ h => h) rfl (fun W hW => ?_) hS ?_
              rotate_left
              · try dsimp only at hW
                go_simp
                try with_reducible rfl
              simp only [Act.put, List.setIfInBounds_toArray, List.set_cons_zero, List.set_cons_succ]
              refine ord_still 3 rfl (v := ?_) (by kernel_rfl) (fun _ _ _ h => h) rfl (fun W hW => ?_) hS ?_
              rotate_left
              · try dsimp only at hW
                go_simp
                try with_reducible rfl
              simp only [Act.put, List.setIfInBounds_toArray, List.set_cons_zero, List.set_cons_succ]
              refine ord_still 4 rfl (v := ?_) (by kernel_rfl) (fun _ _ _ h => h) rfl (fun W hW => ?_) hS ?_
              rotate_left
              · try dsimp only at hW
                go_simp
                try with_reducible rfl
              simp only [Act.put, List.setIfInBounds_toArray, List.set_cons_zero, List.set_cons_succ]
              refine ord_still 5 rfl (v := ?_) (by kernel_rfl) (fun _ _ _ h => h) rfl (fun W hW => ?_) hS ?_
              rotate_left
              · try dsimp only at hW
                go_simp
                try with_reducible rfl
              simp only [Act.put, List.setIfInBounds_toArray, List.set_cons_zero, List.set_cons_succ]
              refine ord_still 6 rfl (v := ?_) (by kernel_rfl) (fun _ _ _ h => h) rfl (fun W hW => ?_) hS ?_
              rotate_left
              · try dsimp only at hW
                go_simp
                try with_reducible rfl
              simp only [Act.put, List.setIfInBounds_toArray, List.set_cons_zero, List.set_cons_succ]
              refine ord_still 7 rfl (v := ?_) (by kernel_rfl) (fun _ _ _ h => h) rfl (fun W hW => ?_) hS ?_
              rotate_left
              · try dsimp only at hW
                go_simp
                try with_reducible rfl
              simp only [Act.put, List.setIfInBounds_toArray, List.set_cons_zero, List.set_cons_succ]
              refine ord_still 8 rfl (v := ?_) (by kernel_rfl) (fun _ _ _ h => h) rfl (fun W hW => ?_) hS ?_
              rotate_left
              · try dsimp only at hW
                go_simp
                try with_reducible rfl
              simp only [Act.put, List.setIfInBounds_toArray, List.set_cons_zero, List.set_cons_succ]
              refine ord_still 9 rfl (v := ?_) (by kernel_rfl) (fun _ _ _ h => h) rfl (fun W hW => ?_) hS ?_
              rotate_left
              · try dsimp only at hW
                go_simp
                try with_reducible rfl
              simp only [Act.put, List.setIfInBounds_toArray, List.set_cons_zero, List.set_cons_succ]
              refine ord_still 10 rfl (v := ?_) (by kernel_rfl) (fun _ _ _ h => h) rfl (fun W hW => ?_) hS ?_
              rotate_left
              · try dsimp only at hW
                go_simp
                try with_reducible rfl
              simp only [Act.put, List.setIfInBounds_toArray, List.set_cons_zero, List.set_cons_succ]
              refine ord_still 11 rfl (v := ?_) (by kernel_rfl) (fun _ _ _ h => h) rfl (fun W hW => ?_) hS ?_
              rotate_left
              · try dsimp only at hW
                go_simp
                try with_reducible rfl
              simp only [Act.put, List.setIfInBounds_toArray, List.set_cons_zero, List.set_cons_succ]
              refine ord_alone 12 rfl (by kernel_rfl) rfl (fun K hK => ?_)
              go_simp
              refine (CG.out _).mono ?_
              rintro _ w6 ⟨rfl, hb⟩
              have HB6 := hid (held_next HB4.out.drew hb)
              have HO6 := hid (Owns.below HO4.out (((Below.refl _ _).drew).trans hb))
              clear hS
              have hS : (w6.cell? ⟨ba, oa, none⟩ = some (.int .u64 (x1 : Int)) ∧ w6.cell? ⟨ba, oa + 1, none⟩ = some (.int .u64 (x2 : Int)) ∧ w6.cell? ⟨ba, oa + 2, none⟩ = some (.int .i64 x3) ∧ w6.cell? ⟨ba, oa + 3, none⟩ = some (.int .i64 x4)) ∧ (w6.cell? ⟨bb, ob, none⟩ = some (.int .u64 (y1 : Int)) ∧ w6.cell? ⟨bb, ob + 1, none⟩ = some (.int .u64 (y2 : Int)) ∧ w6.cell? ⟨bb, ob + 2, none⟩ = some (.int .i64 y3) ∧ w6.cell? ⟨bb, ob + 3, none⟩ = some (.int .i64 y4)) := ⟨HXC.out _ (HB6.out), HYC.out _ (HB6.out)⟩
              clear hb
              refine hK.out _ _ hS ?_
              clear hK
              refine ord_still 13 rfl (v := ?_) (by kernel_rfl) (fun _ _ _ h => h) rfl (fun W hW => ?_) hS ?_
              rotate_left
              · try dsimp only at hW
                go_simp
                try with_reducible rfl
              simp only [Act.put, List.setIfInBounds_toArray, List.set_cons_zero, List.set_cons_succ]
              refine ord_still 14 rfl (v := ?_) (by kernel_rfl) (fun _ _ _ h => h) rfl (fun W hW => ?_) hS ?_
              rotate_left
              · try dsimp only at hW
                go_simp
                try with_reducible rfl
              simp only [Act.put, List.setIfInBounds_toArray, List.set_cons_zero, List.set_cons_succ]
              refine ord_done (by kernel_rfl) ?_
              clear hS
              go_wp2_with fail
              have hS : (w6.drew.cell? ⟨ba, oa, none⟩ = some (.int .u64 (x1 : Int)) ∧ w6.drew.cell? ⟨ba, oa + 1, none⟩ = some (.int .u64 (x2 : Int)) ∧ w6.drew.cell? ⟨ba, oa + 2, none⟩ = some (.int .i64 x3) ∧ w6.drew.cell? ⟨ba, oa + 3, none⟩ = some (.int .i64 x4)) ∧ (w6.drew.cell? ⟨bb, ob, none⟩ = some (.int .u64 (y1 : Int)) ∧ w6.drew.cell? ⟨bb, ob + 1, none⟩ = some (.int .u64 (y2 : Int)) ∧ w6.drew.cell? ⟨bb, ob + 2, none⟩ = some (.int .i64 y3) ∧ w6.drew.cell? ⟨bb, ob + 3, none⟩ = some (.int .i64 y4)) := ⟨HXC.out _ (HB6.out.drew), HYC.out _ (HB6.out.drew)⟩
              refine wp_region_ord (fun w' => (w'.cell? ⟨ba, oa, none⟩ = some (.int .u64 (x1 : Int)) ∧ w'.cell? ⟨ba, oa + 1, none⟩ = some (.int .u64 (x2 : Int)) ∧ w'.cell? ⟨ba, oa + 2, none⟩ = some (.int .i64 x3) ∧ w'.cell? ⟨ba, oa + 3, none⟩ = some (.int .i64 x4)) ∧ (w'.cell? ⟨bb, ob, none⟩ = some (.int .u64 (y1 : Int)) ∧ w'.cell? ⟨bb, ob + 1, none⟩ = some (.int .u64 (y2 : Int)) ∧ w'.cell? ⟨bb, ob + 2, none⟩ = some (.int .i64 y3) ∧ w'.cell? ⟨bb, ob + 3, none⟩ = some (.int .i64 y4))) (by kernel_rfl) hS ?_
              refine ord_still 0 rfl (v := ?_) (by kernel_rfl) (fun _ _ _ h => h) rfl (fun W hW => ?_) hS ?_
              rotate_left
              · try dsimp only at hW
                go_simp
                try with_reducible rfl
              simp only [Act.put, List.setIfInBounds_toArray, List.set_cons_zero, List.set_cons_succ]
              refine ord_still 1 rfl (v := ?_) (by kernel_rfl) (fun _ _ _ h => h) rfl (fun W hW => ?_) hS ?_
              rotate_left
              · try dsimp only at hW
                go_simp
                try with_reducible rfl
              simp only [Act.put, List.setIfInBounds_toArray, List.set_cons_zero, List.set_cons_succ]
              refine ord_still 2 rfl (v := ?_) (by kernel_rfl) (fun _ _ _ h => h) rfl (fun W hW => ?_) hS ?_
              rotate_left
              · try dsimp only at hW
                go_simp
                try with_reducible rfl
              simp only [Act.put, List.setIfInBounds_toArray, List.set_cons_zero, List.set_cons_succ]
              refine ord_still 3 rfl (v := ?_) (by kernel_rfl) (fun _ _ _ h => h) rfl (fun W hW => ?_) hS ?_
              rotate_left
              · try dsimp only at hW
                go_simp
                try with_reducible rfl
              simp only [Act.put, List.setIfInBounds_toArray, List.set_cons_zero, List.set_cons_succ]
              refine ord_still 4 rfl (v := ?_) (by kernel_rfl) (fun _ _ _ h => h) rfl (fun W hW => ?_) hS ?_
              rotate_left
              · try dsimp only at hW
                go_simp
                try with_reducible rfl
              simp only [Act.put, List.setIfInBounds_toArray, List.set_cons_zero, List.set_cons_succ]
              refine ord_still 5 rfl (v := ?_) (by kernel_rfl) (fun _ _ _ h => h) rfl (fun W hW => ?_) hS ?_
              rotate_left
              · try dsimp only at hW
                go_simp
                try with_reducible rfl
              simp only [Act.put, List.setIfInBounds_toArray, List.set_cons_zero, List.set_cons_succ]
              refine ord_still 6 rfl (v := ?_) (by kernel_rfl) (fun _ _ _ h => h) rfl (fun W hW => ?_) hS ?_
              rotate_left
              · try dsimp only at hW
                go_simp
                try with_reducible rfl
              simp only [Act.put, List.setIfInBounds_toArray, List.set_cons_zero, List.set_cons_succ]
              refine ord_still 7 rfl (v := ?_) (by kernel_rfl) (fun _ _ _ h => h) rfl (fun W hW => ?_) hS ?_
              rotate_left
              · try dsimp only at hW
                go_simp
                try with_reducible rfl
              simp only [Act.put, List.setIfInBounds_toArray, List.set_cons_zero, List.set_cons_succ]
              refine ord_still 8 rfl (v := ?_) (by kernel_rfl) (fun _ _ _ h => h) rfl (fun W hW => ?_) hS ?_
              rotate_left
              · try dsimp only at hW
                go_simp
                try with_reducible rfl
              simp only [Act.put, List.setIfInBounds_toArray, List.set_cons_zero, List.set_cons_succ]
              refine ord_done (by kernel_rfl) ?_
              clear hS
              go_wp2_with fail
              have hS : (w6.drew.drew.cell? ⟨ba, oa, none⟩ = some (.int .u64 (x1 : Int)) ∧ w6.drew.drew.cell? ⟨ba, oa + 1, none⟩ = some (.int .u64 (x2 : Int)) ∧ w6.drew.drew.cell? ⟨ba, oa + 2, none⟩ = some (.int .i64 x3) ∧ w6.drew.drew.cell? ⟨ba, oa + 3, none⟩ = some (.int .i64 x4)) ∧ (w6.drew.drew.cell? ⟨bb, ob, none⟩ = some (.int .u64 (y1 : Int)) ∧ w6.drew.drew.cell? ⟨bb, ob + 1, none⟩ = some (.int .u64 (y2 : Int)) ∧ w6.drew.drew.cell? ⟨bb, ob + 2, none⟩ = some (.int .i64 y3) ∧ w6.drew.drew.cell? ⟨bb, ob + 3, none⟩ = some (.int .i64 y4)) := ⟨HXC.out _ (HB6.out.drew.drew), HYC.out _ (HB6.out.drew.drew)⟩
              refine wp_region_ord (fun w' => (w'.cell? ⟨ba, oa, none⟩ = some (.int .u64 (x1 : Int)) ∧ w'.cell? ⟨ba, oa + 1, none⟩ = some (.int .u64 (x2 : Int)) ∧ w'.cell? ⟨ba, oa + 2, none⟩ = some (.int .i64 x3) ∧ w'.cell? ⟨ba, oa + 3, none⟩ = some (.int .i64 x4)) ∧ (w'.cell? ⟨bb, ob, none⟩ = some (.int .u64 (y1 : Int)) ∧ w'.cell? ⟨bb, ob + 1, none⟩ = some (.int .u64 (y2 : Int)) ∧ w'.cell? ⟨bb, ob + 2, none⟩ = some (.int .i64 y3) ∧ w'.cell? ⟨bb, ob + 3, none⟩ = some (.int .i64 y4))) (by kernel_rfl) hS ?_
              refine ord_still 0 rfl (v := ?_) (by kernel_rfl) (fun _ _ _ h => h) rfl (fun W hW => ?_) hS ?_
              rotate_left
              · try dsimp only at hW
                go_simp
                try with_reducible rfl
              simp only [Act.put, List.setIfInBounds_toArray, List.set_cons_zero, List.set_cons_succ]
              refine ord_still 1 rfl (v := ?_) (by kernel_rfl) (fun _ _ _ h => h) rfl (fun W hW => ?_) hS ?_
              rotate_left
              · try dsimp only at hW
                go_simp
                try with_reducible rfl
              simp only [Act.put, List.setIfInBounds_toArray, List.set_cons_zero, List.set_cons_succ]
              refine ord_still 2 rfl (v := ?_) (by kernel_rfl) (fun _ _ _ h => h) rfl (fun W hW => ?_) hS ?_
              rotate_left
              · try dsimp only at hW
                go_simp
                try with_reducible rfl
              simp only [Act.put, List.setIfInBounds_toArray, List.set_cons_zero, List.set_cons_succ]
              refine ord_still 3 rfl (v := ?_) (by kernel_rfl) (fun _ _ _ h => h) rfl (fun W hW => ?_) hS ?_
              rotate_left
              · try dsimp only at hW
                go_simp
                try with_reducible rfl
              simp only [Act.put, List.setIfInBounds_toArray, List.set_cons_zero, List.set_cons_succ]
              refine ord_still 4 rfl (v := ?_) (by kernel_rfl) (fun _ _ _ h => h) rfl (fun W hW => ?_) hS ?_
              rotate_left
              · try dsimp only at hW
                go_simp
                try with_reducible rfl
              simp only [Act.put, List.setIfInBounds_toArray, List.set_cons_zero, List.set_cons_succ]
              refine ord_still 5 rfl (v := ?_) (by kernel_rfl) (fun _ _ _ h => h) rfl (fun W hW => ?_) hS ?_
              rotate_left
              · try dsimp only at hW
                go_simp
                try with_reducible rfl
              simp only [Act.put, List.setIfInBounds_toArray, List.set_cons_zero, List.set_cons_succ]
              refine ord_still 6 rfl (v := ?_) (by kernel_rfl) (fun _ _ _ h => h) rfl (fun W hW => ?_) hS ?_
              rotate_left
              · try dsimp only at hW
                go_simp
                try with_reducible rfl
              simp only [Act.put, List.setIfInBounds_toArray, List.set_cons_zero, List.set_cons_succ]
              refine ord_still 7 rfl (v := ?_) (by kernel_rfl) (fun _ _ _ h => h) rfl (fun W hW => ?_) hS ?_
              rotate_left
              · try dsimp only at hW
                go_simp
                try with_reducible rfl
              simp only [Act.put, List.setIfInBounds_toArray, List.set_cons_zero, List.set_cons_succ]
              refine ord_still 8 rfl (v := ?_) (by kernel_rfl) (fun _ _ _ h => h) rfl (fun W hW => ?_) hS ?_
              rotate_left
              · try dsimp only at hW
                go_simp
                try with_reducible rfl
              simp only [Act.put, List.setIfInBounds_toArray, List.set_cons_zero, List.set_cons_succ]
              refine ord_still 9 rfl (v := ?_) (by kernel_rfl) (fun _ _ _ h => h) rfl (fun W hW => ?_) hS ?_
              rotate_left
              · try dsimp only at hW
                go_simp
                try with_reducible rfl
              simp only [Act.put, List.setIfInBounds_toArray, List.set_cons_zero, List.set_cons_succ]
              refine ord_still 10 rfl (v := ?_) (by kernel_rfl) (fun _ _ _ h => h) rfl (fun W hW => ?_) hS ?_
              rotate_left
              · try dsimp only at hW
                go_simp
                try with_reducible rfl
              simp only [Act.put, List.setIfInBounds_toArray, List.set_cons_zero, List.set_cons_succ]
              refine ord_still 11 rfl (v := ?_) (by kernel_rfl) (fun _ _ _ h => h) rfl (fun W hW => ?_) hS ?_
              rotate_left
              · try dsimp only at hW
                go_simp
                try with_reducible rfl
              simp only [Act.put, List.setIfInBounds_toArray, List.set_cons_zero, List.set_cons_succ]
              refine ord_still 12 rfl (v := ?_) (by kernel_rfl) (fun _ _ _ h => h) rfl (fun W hW => ?_) hS ?_
              rotate_left
              · try dsimp only at hW
                go_simp
                try with_reducible rfl
              simp only [Act.put, List.setIfInBounds_toArray, List.set_cons_zero, List.set_cons_succ]
              refine ord_still 13 rfl (v := ?_) (by kernel_rfl) (fun _ _ _ h => h) rfl (fun W hW => ?_) hS ?_
              rotate_left
              · try dsimp only at hW
                go_simp
                try with_reducible rfl
              simp only [Act.put, List.setIfInBounds_toArray, List.set_cons_zero, List.set_cons_succ]
              refine ord_alone 14 rfl (by kernel_rfl) rfl (fun K hK => ?_)
              go_simp
              have hA : Below w2.heap.size w2 (w6.drew.drew.alloc (.cells #[.int .u64 (x1 : Int), .int .u64 (x2 : Int), .int .i64 x3, .int .i64 x4, .int .i64 y4] 44)) := HB6.out.drew.drew.alloc HB6.out.size _
              have hBk : Blk (w6.drew.drew.alloc (.cells #[.int .u64 (x1 : Int), .int .u64 (x2 : Int), .int .i64 x3, .int .i64 x4, .int .i64 y4] 44)) w6.drew.heap.size 44 (([(((x1, x2), x3), x4, y4)] : List Ch).flatMap chgEn) := Blk.new w6.drew.drew _ _
              have hOA : Owns (w6.drew.drew.alloc (.cells #[.int .u64 (x1 : Int), .int .u64 (x2 : Int), .int .i64 x3, .int .i64 x4, .int .i64 y4] 44)) w2.heap.size 44 5 (.slice Ao nd co) nd (chsV D) := Owns.below HO6.out (((Below.refl _ _).drew.drew).alloc (Nat.le_refl _) _)
              have HBS := hid HB6.out.size
              clear hS
              have hS : ((w6.drew.drew.alloc (.cells #[.int .u64 (x1 : Int), .int .u64 (x2 : Int), .int .i64 x3, .int .i64 x4, .int .i64 y4] 44)).cell? ⟨ba, oa, none⟩ = some (.int .u64 (x1 : Int)) ∧ (w6.drew.drew.alloc (.cells #[.int .u64 (x1 : Int), .int .u64 (x2 : Int), .int .i64 x3, .int .i64 x4, .int .i64 y4] 44)).cell? ⟨ba, oa + 1, none⟩ = some (.int .u64 (x2 : Int)) ∧ (w6.drew.drew.alloc (.cells #[.int .u64 (x1 : Int), .int .u64 (x2 : Int), .int .i64 x3, .int .i64 x4, .int .i64 y4] 44)).cell? ⟨ba, oa + 2, none⟩ = some (.int .i64 x3) ∧ (w6.drew.drew.alloc (.cells #[.int .u64 (x1 : Int), .int .u64 (x2 : Int), .int .i64 x3, .int .i64 x4, .int .i64 y4] 44)).cell? ⟨ba, oa + 3, none⟩ = some (.int .i64 x4)) ∧ ((w6.drew.drew.alloc (.cells #[.int .u64 (x1 : Int), .int .u64 (x2 : Int), .int .i64 x3, .int .i64 x4, .int .i64 y4] 44)).cell? ⟨bb, ob, none⟩ = some (.int .u64 (y1 : Int)) ∧ (w6.drew.drew.alloc (.cells #[.int .u64 (x1 : Int), .int .u64 (x2 : Int), .int .i64 x3, .int .i64 x4, .int .i64 y4] 44)).cell? ⟨bb, ob + 1, none⟩ = some (.int .u64 (y2 : Int)) ∧ (w6.drew.drew.alloc (.cells #[.int .u64 (x1 : Int), .int .u64 (x2 : Int), .int .i64 x3, .int .i64 x4, .int .i64 y4] 44)).cell? ⟨bb, ob + 2, none⟩ = some (.int .i64 y3) ∧ (w6.drew.drew.alloc (.cells #[.int .u64 (x1 : Int), .int .u64 (x2 : Int), .int .i64 x3, .int .i64 x4, .int .i64 y4] 44)).cell? ⟨bb, ob + 3, none⟩ = some (.int .i64 y4)) := ⟨HXC.out _ (hA), HYC.out _ (hA)⟩
              refine hK.out _ _ hS ?_
              clear hK
              refine ord_alone 15 rfl (by kernel_rfl) rfl (fun K hK => ?_)
              refine wp_append_rd _ _ 40 rfl 44 _ 5 40 Try.underlying40 dch_row rfl (by decide) w2.heap.size _ nd _ rfl hOA _ rfl ([(((x1, x2), x3), x4, y4)] : List Ch) (Rd.of_blk (l := ([(((x1, x2), x3), x4, y4)] : List Ch)) hBk chgEn_len (by unfold maxLen; simp)) chgEn_len cells_ch ?_ ?_ ?_ ?_
              · simp only [List.length_singleton]; unfold maxLen; omega
              · simp only [List.length_singleton]; omega
              · have := HBS.out; simp; omega
              intro v5 w5 hO hC
              have HB5 := hid (show Below w2.heap.size w2 w5 from hA.trans (hC.below (B := w2.heap.size) (by have := HBS.out; simp; omega) (fun i hi hh => by have := (Owns.base_le hOA i hh).1; omega)))
              have HO5 := hid hO
              clear hS
              have hS : (w5.cell? ⟨ba, oa, none⟩ = some (.int .u64 (x1 : Int)) ∧ w5.cell? ⟨ba, oa + 1, none⟩ = some (.int .u64 (x2 : Int)) ∧ w5.cell? ⟨ba, oa + 2, none⟩ = some (.int .i64 x3) ∧ w5.cell? ⟨ba, oa + 3, none⟩ = some (.int .i64 x4)) ∧ (w5.cell? ⟨bb, ob, none⟩ = some (.int .u64 (y1 : Int)) ∧ w5.cell? ⟨bb, ob + 1, none⟩ = some (.int .u64 (y2 : Int)) ∧ w5.cell? ⟨bb, ob + 2, none⟩ = some (.int .i64 y3) ∧ w5.cell? ⟨bb, ob + 3, none⟩ = some (.int .i64 y4)) := ⟨HXC.out _ (HB5.out), HYC.out _ (HB5.out)⟩
              clear hA hBk hOA hO hC HBS
              refine hK.out _ _ hS ?_
              clear hK
              refine ord_still 16 rfl (v := ?_) (by kernel_rfl) (fun _ _ _ h => h) rfl (fun W hW => ?_) hS ?_
              rotate_left
              · try dsimp only at hW
                go_simp
                try with_reducible rfl
              simp only [Act.put, List.setIfInBounds_toArray, List.set_cons_zero, List.set_cons_succ]
              refine ord_done (by kernel_rfl) ?_
              clear hS
              go_wp2_with fail
              have hS : (w5.drew.cell? ⟨ba, oa, none⟩ = some (.int .u64 (x1 : Int)) ∧ w5.drew.cell? ⟨ba, oa + 1, none⟩ = some (.int .u64 (x2 : Int)) ∧ w5.drew.cell? ⟨ba, oa + 2, none⟩ = some (.int .i64 x3) ∧ w5.drew.cell? ⟨ba, oa + 3, none⟩ = some (.int .i64 x4)) ∧ (w5.drew.cell? ⟨bb, ob, none⟩ = some (.int .u64 (y1 : Int)) ∧ w5.drew.cell? ⟨bb, ob + 1, none⟩ = some (.int .u64 (y2 : Int)) ∧ w5.drew.cell? ⟨bb, ob + 2, none⟩ = some (.int .i64 y3) ∧ w5.drew.cell? ⟨bb, ob + 3, none⟩ = some (.int .i64 y4)) := ⟨HXC.out _ (HB5.out.drew), HYC.out _ (HB5.out.drew)⟩
              refine wp_region_ord (fun w' => (w'.cell? ⟨ba, oa, none⟩ = some (.int .u64 (x1 : Int)) ∧ w'.cell? ⟨ba, oa + 1, none⟩ = some (.int .u64 (x2 : Int)) ∧ w'.cell? ⟨ba, oa + 2, none⟩ = some (.int .i64 x3) ∧ w'.cell? ⟨ba, oa + 3, none⟩ = some (.int .i64 x4)) ∧ (w'.cell? ⟨bb, ob, none⟩ = some (.int .u64 (y1 : Int)) ∧ w'.cell? ⟨bb, ob + 1, none⟩ = some (.int .u64 (y2 : Int)) ∧ w'.cell? ⟨bb, ob + 2, none⟩ = some (.int .i64 y3) ∧ w'.cell? ⟨bb, ob + 3, none⟩ = some (.int .i64 y4))) (by kernel_rfl) hS ?_
              refine ord_still 0 rfl (v := ?_) (by kernel_rfl) (fun _ _ _ h => h) rfl (fun W hW => ?_) hS ?_
              rotate_left
              · try dsimp only at hW
                go_simp
                try with_reducible rfl
              simp only [Act.put, List.setIfInBounds_toArray, List.set_cons_zero, List.set_cons_succ]
              refine ord_still 1 rfl (v := ?_) (by kernel_rfl) (fun _ _ _ h => h) rfl (fun W hW => ?_) hS ?_
              rotate_left
              · try dsimp only at hW
                go_simp
                try with_reducible rfl
              simp only [Act.put, List.setIfInBounds_toArray, List.set_cons_zero, List.set_cons_succ]
              refine ord_still 2 rfl (v := ?_) (by kernel_rfl) (fun _ _ _ h => h) rfl (fun W hW => ?_) hS ?_
              rotate_left
              · try dsimp only at hW
                go_simp
                try with_reducible rfl
              simp only [Act.put, List.setIfInBounds_toArray, List.set_cons_zero, List.set_cons_succ]
              refine ord_still 3 rfl (v := ?_) (by kernel_rfl) (fun _ _ _ h => h) rfl (fun W hW => ?_) hS ?_
              rotate_left
              · try dsimp only at hW
                go_simp
                try with_reducible rfl
              simp only [Act.put, List.setIfInBounds_toArray, List.set_cons_zero, List.set_cons_succ]
              refine ord_still 4 rfl (v := ?_) (by kernel_rfl) (fun _ _ _ h => h) rfl (fun W hW => ?_) hS ?_
              rotate_left
              · try dsimp only at hW
                go_simp
                try with_reducible rfl
              simp only [Act.put, List.setIfInBounds_toArray, List.set_cons_zero, List.set_cons_succ]
              refine ord_still 5 rfl (v := ?_) (by kernel_rfl) (fun _ _ _ h => h) rfl (fun W hW => ?_) hS ?_
              rotate_left
              · try dsimp only at hW
                go_simp
                try with_reducible rfl
              simp only [Act.put, List.setIfInBounds_toArray, List.set_cons_zero, List.set_cons_succ]
              refine ord_done (by kernel_rfl) ?_
              clear hS
              go_wp2_with fail
              go_roundw
              case rel => exact ⟨_, _, _, HST.out.takeB HND.out HE.out HO5.out HB5.out.drew⟩
              case measure => have := HNA.out; simp [lenOf]; omega
end Go.Proofs.Ytcchjljdhjkmeaa
