/-
  Routes turned round in their block. No condition but that there are no more than a thousand million routes.
-/
import Derived.Test.YtcchjljdhjkmeaaStab8
namespace Go.Proofs.Ytcchjljdhjkmeaa
open Go.RowKit
set_option linter.unusedVariables false
set_option linter.unusedSimpArgs false
set_option maxRecDepth 100000

structure RvSt (g : Nat) (Z : List Value) (L : List Tg) (i l : Nat) (w0 wr : World) (P M Q : List Tg) : Prop where
  p : P.length = i
  m : M.length = l
  t : P ++ M.reverse ++ Q = L.reverse
  r : RowT wr g (P ++ M ++ Q) Z
  n : i + l + Q.length = L.length
  c : Chg (· = g) w0 wr
def RvRel (g : Nat) (Z : List Value) (L : List Tg) (w0 : World) (iv jv : Value) (wr : World) : Prop :=
  ∃ (i l : Nat) (P M Q : List Tg), iv = .int .i64 i ∧ jv = .int .i64 ((i : Int) + (l : Int) - 1) ∧ RvSt g Z L i l w0 wr P M Q
theorem two_ends {l : Nat} {M : List Tg} (h : M.length = l + 2) : ∃ x M' y, M = x :: (M' ++ [y]) ∧ M'.length = l := by
  cases M with
  | nil => simp at h
  | cons x M =>
    rcases List.eq_nil_or_concat M with e | ⟨M', y, e⟩
    · subst e; simp at h
    · rw [List.concat_eq_append] at e; subst e; exact ⟨x, M', y, rfl, by simp at h; omega⟩
theorem rev_step {P M' Q : List Tg} {x y : Tg} {i j : Nat} (hi : P.length = i) (hj : i + M'.length + 1 = j) :
    (P ++ (x :: (M' ++ [y])) ++ Q)[i]? = some x ∧ (P ++ (x :: (M' ++ [y])) ++ Q)[j]? = some y ∧ ((P ++ (x :: (M' ++ [y])) ++ Q).set i y).set j x = (P ++ [y]) ++ M' ++ (x :: Q) := by
  have q1 : P ++ (x :: (M' ++ [y])) ++ Q = P ++ x :: (M' ++ y :: Q) := by simp
  have q2 : P ++ x :: (M' ++ y :: Q) = (P ++ x :: M') ++ y :: Q := by simp
  have q3 : P ++ y :: (M' ++ y :: Q) = (P ++ y :: M') ++ y :: Q := by simp
  refine ⟨?_, ?_, ?_⟩
  · rw [q1]; exact at_pre hi.symm
  · rw [q1, q2]; exact at_pre (by simp; omega)
  · rw [q1, set_mid hi.symm, q3, set_mid (by simp; omega)]; simp

set_option maxHeartbeats 1000000 in
theorem st_reverse {w : World} {g cap n : Nat} {L : List Tg} {Z : List Value} (H : RowT w g L Z) (hn : L.length = n) (hc : n ≤ cap) (hcm : n ≤ 4000000000000000000 ∧ cap ≤ 9223372036854775807) (hnm : n ≤ 1000000000) :
    Calls Try.prog 38 #[.slice (some ⟨g, 0, none⟩) n cap] w fun e w' => e = .returned (.tuple #[]) ∧ RowT w' g L.reverse Z ∧ Chg (· = g) w w' := by
  have H0 := hid (show RvSt g Z L 0 n w w [] L [] from ⟨rfl, hn, by simp, by simpa using H, by simp; omega, Chg.refl _ _⟩)
  have HN := hid hn
  have hnI : (n : Int) ≤ 1000000000 := by omega
  clear H hn
  go_enter Try.func38, Try.ntmps38
  go_wp2_with fail
  go_loopw [2, 3] (fun iv jv wr => RvRel g Z L w iv jv wr) (fun iv jv _ => (intOf jv - intOf iv + 1).toNat)
  case atStart => exact ⟨0, n, [], L, [], rfl, by first | go_num | (congr 1; omega), H0.out⟩
  case round =>
    obtain ⟨i, l, P, M, Q, rfl, rfl, hS⟩ := hrel
    clear H0
    have hNo := HN.out
    have hnl := hS.n
    by_cases h2 : 2 ≤ l
    · obtain ⟨l', rfl⟩ : ∃ l', l = l' + 2 := ⟨l - 2, by omega⟩
      obtain ⟨x, M', y, hM, hl'⟩ := two_ends hS.m
      obtain ⟨j, hj⟩ : ∃ j, i + l' + 1 = j := ⟨_, rfl⟩
      obtain ⟨s1, s2, s3⟩ := rev_step (M' := M') (j := j) (Q := Q) (x := x) (y := y) hS.p (by omega)
      have hR := hS.r
      rw [hM] at hR
      have HSW := hid (show RvSt g Z L (i + 1) l' w (st4 (st4 wr g i y.1) g j x.1).drew (P ++ [y]) M' (x :: Q) from
        ⟨by rw [List.length_append, hS.p]; rfl, hl', by rw [← hS.t, hM]; simp, by rw [← s3]; exact Blk.drew (hR.swap s1 s2), by rw [List.length_cons]; omega, ((hS.c.trans' (st4_chg _ _ _ _)).trans' (st4_chg _ _ _ _)).drew⟩)
      obtain ⟨c0, c1, c2, c3⟩ := hR.cells s1
      obtain ⟨d0, d1, d2, d3⟩ := hR.cells s2
      have f0 := hR.frozen (i * 4)
      have f1 := hR.frozen (i * 4 + 1)
      have f2 := hR.frozen (i * 4 + 2)
      have f3 := hR.frozen (i * 4 + 3)
      have g0 := hR.frozen (j * 4)
      have g1 := hR.frozen (j * 4 + 1)
      have g2 := hR.frozen (j * 4 + 2)
      have g3 := hR.frozen (j * 4 + 3)
      have ej : (i : Int) + ((l' + 2 : Nat) : Int) - 1 = (j : Int) := by omega
      have ej2 : (j : Int) - 1 = ((i + 1 : Nat) : Int) + (l' : Int) - 1 := by omega
      have EJ := hid ej2
      have i0 : (0 : Int) ≤ (i : Int) := by omega
      have i1 : (i : Int) < (n : Int) := by omega
      have j0 : (0 : Int) ≤ (j : Int) := by omega
      have j1 : (j : Int) < (n : Int) := by omega
      have n1 : ¬ i = j := by omega
      have n2 : ¬ j = i := by omega
      have ij : (i : Int) < (j : Int) := by omega
      rw [ej]
      obtain ⟨⟨⟨⟨x1, x2⟩, x3⟩, x4⟩, x5⟩ := x
      obtain ⟨⟨⟨⟨y1, y2⟩, y3⟩, y4⟩, y5⟩ := y
      simp only at c0 c1 c2 c3 d0 d1 d2 d3 HSW
      clear hS hR hM hl' s1 s2 s3 hj hNo hnl ej ej2 h2
      go_wp2_with fail
      go_region
      clear c0 c1 c2 c3 d0 d1 d2 d3 f0 f1 f2 f3 g0 g1 g2 g3 n1 n2
      go_wp2_with fail
      go_roundw
      case rel => exact ⟨i + 1, l', _, _, _, by go_num, by rw [← EJ.out], HSW.out⟩
      case measure => simp [intOf]; omega
    · have HF := hid (show RowT wr g L.reverse Z ∧ Chg (· = g) w wr from ⟨by
        have e : M.reverse = M := by
          rcases M with _ | ⟨x, _ | ⟨y, M⟩⟩
          · rfl
          · rfl
          · have := hS.m; simp at this; omega
        have h := hS.t
        rw [e] at h
        rw [← h]; exact hS.r, hS.c⟩)
      have c1 : ¬ (i : Int) < (i : Int) + (l : Int) - 1 := by omega
      have i1 : (i : Int) ≤ 1000000000 := by omega
      have l1 : (l : Int) ≤ 1 := by omega
      clear hS hNo hnl h2
      go_wp2_with fail
      go_returns
      exact ⟨rfl, HF.out⟩

end Go.Proofs.Ytcchjljdhjkmeaa
