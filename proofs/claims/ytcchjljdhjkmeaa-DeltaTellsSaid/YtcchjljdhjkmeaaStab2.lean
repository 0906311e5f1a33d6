/-
  Sorting routes stably, as the library does: ranges turned. No condition.
-/
import Derived.Test.YtcchjljdhjkmeaaStab
namespace Go.Proofs.Ytcchjljdhjkmeaa
open Go.RowKit
set_option linter.unusedVariables false
set_option linter.unusedSimpArgs false
set_option maxRecDepth 100000

structure RtSt (g : Nat) (Z : List Value) (T : List Tg) (m n i j : Nat) (w0 wr : World) (A X Y B : List Tg) : Prop where
  x : X.length = i
  y : Y.length = j
  i0 : 0 < i
  j0 : 0 < j
  a : A.length + i = m
  n : A.length + i + j + B.length = n
  t : A ++ Y ++ X ++ B = T
  r : RowT wr g (A ++ X ++ Y ++ B) Z
  c : Chg (· = g) w0 wr
def RtRel (g : Nat) (Z : List Value) (T : List Tg) (m n : Nat) (w0 : World) (iv jv : Value) (wr : World) : Prop :=
  ∃ (i j : Nat) (A X Y B : List Tg), iv = .int .i64 i ∧ jv = .int .i64 j ∧ RtSt g Z T m n i j w0 wr A X Y B

set_option maxHeartbeats 1000000 in
theorem st_rotate {w : World} {g cap n a m b : Nat} {A X Y B : List Tg} {Z : List Value} (H : RowT w g (A ++ X ++ Y ++ B) Z) (hn : A.length + X.length + Y.length + B.length = n) (ha : A.length = a) (hm : A.length + X.length = m) (hb : A.length + X.length + Y.length = b) (h0 : 0 < X.length) (h1 : 0 < Y.length) (hc : n ≤ cap) (hcm : cap ≤ maxLen) (f : Value) :
    Calls Try.prog 87 #[.slice (some ⟨g, 0, none⟩) n cap, .int .i64 (a : Int), .int .i64 (m : Int), .int .i64 (b : Int), f] w fun e w' =>
      e = .returned (.tuple #[]) ∧ RowT w' g (A ++ Y ++ X ++ B) Z ∧ Chg (· = g) w w' := by
  obtain ⟨i, hi⟩ : ∃ i, X.length = i := ⟨_, rfl⟩
  obtain ⟨j, hj⟩ : ∃ j, Y.length = j := ⟨_, rfl⟩
  have HST := hid (show RtSt g Z (A ++ Y ++ X ++ B) m n i j w w A X Y B from ⟨hi, hj, by omega, by omega, by omega, by omega, rfl, H, Chg.refl _ _⟩)
  have HSW := hid (fun (w : World) (a b c : Nat) (A X M Y B : List Tg) (H : RowT w g (A ++ X ++ M ++ Y ++ B) Z) h1 h2 h3 h4 h5 => st_swapRange (w := w) (cap := cap) (n := n) (a := a) (b := b) (c := c) H h1 h2 h3 h4 h5 hc hcm f)
  generalize A ++ Y ++ X ++ B = T at *
  unfold maxLen at hcm
  have k1 : (m : Int) - (a : Int) = (i : Int) := by omega
  have k2 : (b : Int) - (m : Int) = (j : Int) := by omega
  have k3 : (m : Int) ≤ n := by omega
  have k4 : (b : Int) ≤ n := by omega
  clear H hn ha hm hb h0 h1 hi hj
  go_enter Try.func87, Try.ntmps87
  go_wp2_with fail
  clear k1 k2 k4
  go_loopw [10, 11] (fun iv jv wr => RtRel g Z T m n w iv jv wr) (fun iv jv _ => (intOf iv).toNat + (intOf jv).toNat)
  case atStart => exact ⟨i, j, A, X, Y, B, rfl, rfl, HST.out⟩
  case round =>
    obtain ⟨i', j', A', X', Y', B', rfl, rfl, hS⟩ := hrel
    clear HST
    have HS := hid hS
    have HN := hS.n
    have HA := hS.a
    have HI := hS.i0
    have HJ := hS.j0
    obtain ⟨p, hp⟩ : ∃ p, A'.length = p := ⟨_, rfl⟩
    rw [hp] at HN HA
    have HP := hid hp
    have e1 : (m : Int) - (i' : Int) = (p : Int) := by omega
    rcases Nat.lt_trichotomy i' j' with h | h | h
    · obtain ⟨q, hq⟩ : ∃ q, j' = i' + q := ⟨j' - i', by omega⟩
      obtain ⟨s, hs⟩ : ∃ s : Nat, m + j' = s := ⟨_, rfl⟩
      obtain ⟨t, ht⟩ : ∃ t : Nat, p + j' = t := ⟨_, rfl⟩
      have cS := hid (HSW.out wr p t i' A' X' (Y'.take q) (Y'.drop q) B' (by have := hS.r; rw [← List.take_append_drop q Y'] at this; simpa using this) (by rw [List.length_drop, hS.x, hS.y]; omega) (by rw [List.length_take, List.length_drop, hS.x, hS.y]; omega) hp (by rw [List.length_take, hS.x, hS.y]; omega) hS.x)
      have HNX := hid (fun (w' : World) (h1 : RowT w' g (A' ++ Y'.drop q ++ Y'.take q ++ X' ++ B') Z) (h2 : Chg (· = g) wr w') => show RtSt g Z T m n i' q w w' A' (Y'.drop q) (Y'.take q) (X' ++ B') from
        ⟨by rw [List.length_drop, hS.y]; omega, by rw [List.length_take, hS.y]; omega, hS.i0, by omega, hS.a, by have := hS.n; rw [List.length_append, hS.x]; omega, by rw [← hS.t, ← List.take_append_drop q Y']; simp, by simpa using h1, hS.c.trans' h2⟩)
      have e2 : (m : Int) + (j' : Int) = (s : Int) := by omega
      have e3 : (s : Int) - (i' : Int) = (t : Int) := by omega
      have e4 : (j' : Int) - (i' : Int) = (q : Int) := by omega
      have b1 : (i' : Int) < (j' : Int) := by omega
      have b2 : ¬ (j' : Int) < (i' : Int) := by omega
      have b3 : ¬ (i' : Int) = (j' : Int) := by omega
      have b4 : (s : Int) ≤ n := by omega
      have b5 : (j' : Int) ≤ n := by omega
      have b6 : (t : Int) ≤ n := by omega
      clear hS HN HA hp hq hs ht h
      go_wp2_with fail
      refine cS.out.mono ?_
      rintro _ w5 ⟨rfl, hR5, hC5⟩
      have HN5 := hid (HNX.out w5 hR5 hC5)
      clear hR5 hC5 cS HNX
      go_wp2_with fail
      go_roundw
      case rel => exact ⟨i', q, A', Y'.drop q, Y'.take q, X' ++ B', by go_num, by go_num, HN5.out⟩
      case measure => simp [intOf]; omega
    · subst h
      have cS := hid (HSW.out wr p m i' A' X' [] Y' B' (by simpa using hS.r) (by rw [hS.x, hS.y]) (by have := hS.n; rw [hS.x, hS.y]; simpa using this) hp (by rw [hS.x]; simpa using hS.a) hS.x)
      have HT := hid hS.t
      have HC := hid hS.c
      clear hS HN HA hp
      go_wp2_with fail
      refine cS.out.mono ?_
      rintro _ w5 ⟨rfl, hR5, hC5⟩
      have HR5 := hid (show RowT w5 g T Z by rw [← HT.out]; simpa using hR5)
      have HC5 := hid (HC.out.trans' hC5)
      clear hR5 hC5 cS
      go_wp2_with fail
      go_returns
      exact ⟨rfl, HR5.out, HC5.out⟩
    · obtain ⟨q, hq⟩ : ∃ q, i' = j' + q := ⟨i' - j', by omega⟩
      have TX : A' ++ Y' ++ (X'.take j' ++ X'.drop j') ++ B' = A' ++ Y' ++ X' ++ B' := by rw [List.take_append_drop]
      have cS := hid (HSW.out wr p m j' A' (X'.take j') (X'.drop j') Y' B' (by have := hS.r; rw [← List.take_append_drop j' X'] at this; simpa using this) (by rw [List.length_take, hS.x, hS.y]; omega) (by have := hS.n; rw [List.length_take, List.length_drop, hS.x, hS.y]; omega) hp (by have := hS.a; rw [List.length_take, List.length_drop, hS.x]; omega) (by rw [List.length_take, hS.x]; omega))
      have HNX := hid (fun (w' : World) (h1 : RowT w' g (A' ++ Y' ++ X'.drop j' ++ X'.take j' ++ B') Z) (h2 : Chg (· = g) wr w') => show RtSt g Z T m n q j' w w' (A' ++ Y') (X'.drop j') (X'.take j') B' from
        ⟨by rw [List.length_drop, hS.x]; omega, by rw [List.length_take, hS.x]; omega, by omega, hS.j0, by have := hS.a; rw [List.length_append, hS.y]; omega, by have := hS.n; rw [List.length_append, hS.y]; omega, by rw [← hS.t, ← TX]; simp, by simpa using h1, hS.c.trans' h2⟩)
      have e4 : (i' : Int) - (j' : Int) = (q : Int) := by omega
      have b1 : (j' : Int) < (i' : Int) := by omega
      have b3 : ¬ (i' : Int) = (j' : Int) := by omega
      have b5 : (i' : Int) ≤ n := by omega
      clear hS HN HA hp hq h TX
      go_wp2_with fail
      refine cS.out.mono ?_
      rintro _ w5 ⟨rfl, hR5, hC5⟩
      have HN5 := hid (HNX.out w5 hR5 hC5)
      clear hR5 hC5 cS HNX
      go_wp2_with fail
      go_roundw
      case rel => exact ⟨q, j', A' ++ Y', X'.drop j', X'.take j', B', by go_num, by go_num, HN5.out⟩
      case measure => simp [intOf]; omega

end Go.Proofs.Ytcchjljdhjkmeaa
