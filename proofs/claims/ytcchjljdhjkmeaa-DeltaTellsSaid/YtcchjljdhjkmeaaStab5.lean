/-
  Sorting routes stably, as the library does: the last of a row put into its place. No condition.
-/
import Derived.Test.YtcchjljdhjkmeaaStab4
namespace Go.Proofs.Ytcchjljdhjkmeaa
open Go.RowKit
set_option linter.unusedVariables false
set_option linter.unusedSimpArgs false
set_option maxRecDepth 100000

structure S2St (S : List Tg) (y : Tg) (u v : Nat) (w0 wr : World) : Prop where
  uv : u ≤ v
  vl : v ≤ S.length
  lo : u = 0 ∨ ∃ z, S[u - 1]? = some z ∧ ¬ y.1.1.lt z.1.1
  hi : v = S.length ∨ ∃ z, S[v]? = some z ∧ y.1.1.lt z.1.1
  b : Below w0.heap.size w0 wr
def S2Rel (S : List Tg) (y : Tg) (a : Nat) (w0 : World) (iv jv : Value) (wr : World) : Prop :=
  ∃ u v i j : Nat, iv = .int .i64 i ∧ jv = .int .i64 j ∧ a + u = i ∧ a + v = j ∧ S2St S y u v w0 wr
def S2Mv (g : Nat) (Z : List Value) (A S B : List Tg) (y : Tg) (a u : Nat) (w0 : World) (kv : Value) (wr : World) : Prop :=
  ∃ c k : Nat, u ≤ c ∧ c ≤ S.length ∧ kv = .int .i64 k ∧ a + c = k ∧ RowT wr g (A ++ (S.take c ++ y :: S.drop c) ++ B) Z ∧ Chg (· = g) w0 wr
theorem s2_step {A S B : List Tg} {y z : Tg} {c k p : Nat} (hp : A.length + c = p) (hk : k = p + 1) (ht : S[c]? = some z) :
    (A ++ (S.take (c + 1) ++ y :: S.drop (c + 1)) ++ B)[k]? = some y ∧ (A ++ (S.take (c + 1) ++ y :: S.drop (c + 1)) ++ B)[p]? = some z ∧ ((A ++ (S.take (c + 1) ++ y :: S.drop (c + 1)) ++ B).set k z).set p y = A ++ (S.take c ++ y :: S.drop c) ++ B := by
  obtain ⟨h1, e1⟩ := List.getElem?_eq_some_iff.1 ht
  rw [List.take_succ_eq_append_getElem h1, List.drop_eq_getElem_cons h1, e1]
  have q1 : A ++ (S.take c ++ [z] ++ y :: S.drop (c + 1)) ++ B = (A ++ S.take c) ++ z :: (y :: (S.drop (c + 1) ++ B)) := by simp
  have q2 : (A ++ S.take c) ++ z :: (y :: (S.drop (c + 1) ++ B)) = (A ++ S.take c ++ [z]) ++ y :: (S.drop (c + 1) ++ B) := by simp
  have q3 : (A ++ S.take c ++ [z]) ++ z :: (S.drop (c + 1) ++ B) = (A ++ S.take c) ++ z :: (z :: (S.drop (c + 1) ++ B)) := by simp
  have hlen : (A ++ S.take c).length = p := by rw [List.length_append, List.length_take]; omega
  refine ⟨?_, ?_, ?_⟩
  · rw [q1, q2]; exact at_pre (by rw [List.length_append, hlen, List.length_singleton]; exact hk)
  · rw [q1]; exact at_pre hlen.symm
  · rw [q1, q2, set_mid (by rw [List.length_append, hlen, List.length_singleton]; exact hk), q3, set_mid hlen.symm]; simp

set_option maxHeartbeats 2000000 in
theorem st_sym2 {w : World} {g cap n a m b : Nat} {A S B : List Tg} {y : Tg} {Z : List Value} (H : RowT w g (A ++ S ++ [y] ++ B) Z) (hn : A.length + S.length + 1 + B.length = n) (ha : A.length = a) (hm : a + S.length = m) (hb : m + 1 = b) (h1 : S.length ≠ 1) (hS : S.Pairwise tl) (hX : CrossT S [y]) (hc : n ≤ cap) (hcm : n ≤ 4000000000000000000 ∧ cap ≤ 9223372036854775807) :
    Calls Try.prog 69 #[.slice (some ⟨g, 0, none⟩) n cap, .int .i64 (a : Int), .int .i64 (m : Int), .int .i64 (b : Int), .func (.func 40) #[] #[]] w (SymPost g Z w A S [y] B) := by
  have HH := hid H
  have HT := hid hS
  have HX := hid hX
  have HA := hid ha
  obtain ⟨l, hl⟩ : ∃ l, S.length = l := ⟨_, rfl⟩
  have HL := hid hl
  rw [hl] at hm hn h1
  have HS0 := hid (show S2St S y 0 l w w from ⟨Nat.zero_le _, by omega, .inl rfl, .inl hl.symm, Below.refl _ _⟩)
  have k1 : (m : Int) - (a : Int) = (l : Int) := by omega
  have k0 : ¬ (l : Int) = 1 := by omega
  have k0b : ((l : Int) == 1) = false := by simpa using k0
  have k2 : (b : Int) - (m : Int) = 1 := by omega
  have hln : (l : Int) ≤ n := by omega
  have hbn : b ≤ n := by omega
  have hbi : (b : Int) ≤ n := by omega
  have HMB := hid hb
  have HM := hid hm
  clear H hS hX ha hl hn hm hb h1
  go_enter Try.func69, Try.ntmps69
  go_wp2_with fail
  go_loopw [14, 15] (fun iv jv wr => S2Rel S y a w iv jv wr) (fun iv jv _ => (intOf jv).toNat - (intOf iv).toNat)
  case atStart => exact ⟨0, l, a, m, rfl, rfl, rfl, HM.out, HS0.out⟩
  case round =>
    obtain ⟨u, v, i, j, rfl, rfl, hi, hj, hS⟩ := hrel
    clear HS0
    have huv := hS.uv
    have hvl := hS.vl
    rw [HL.out] at hvl
    have HSS := hid hS
    have hM1 := HM.out
    have hMB1 := HMB.out
    by_cases hlt : u < v
    · obtain ⟨h, hh⟩ : ∃ h, (i + j) / 2 = h := ⟨_, rfl⟩
      obtain ⟨c, hcc⟩ : ∃ c, h = a + c := ⟨h - a, by omega⟩
      have huc : u ≤ c := by omega
      have hcv : c < v := by omega
      obtain ⟨x, hx⟩ : ∃ x, S[c]? = some x := ⟨_, List.getElem?_eq_getElem (by rw [HL.out]; omega)⟩
      have hAl := HA.out
      have p1 : (A ++ S ++ [y] ++ B)[m]? = some y := by
        have q : A ++ S ++ [y] ++ B = (A ++ S) ++ y :: B := by simp
        rw [q]; exact at_pre (by rw [List.length_append, HL.out]; omega)
      have p2 : (A ++ S ++ [y] ++ B)[h]? = some x := by
        have q : A ++ S ++ [y] ++ B = A ++ S ++ ([y] ++ B) := by simp
        rw [q, hcc, at_mid hAl (by rw [HL.out]; omega)]; exact hx
      have HTW := hid ((HH.out.below hS.b).two p1 p2)
      have HY := hid hx
      have cb := hid (fun w => srt_cmp y.1 x.1 w)
      obtain ⟨z, hz⟩ : ∃ z, y.1.1.cmp x.1.1 = z := ⟨_, rfl⟩
      have hzl := srt_cmpn y.1 x.1
      rw [hz] at cb hzl
      have HZL := hid hzl
      have HI := hid hi
      have HJ := hid hj
      have e1 : ((i : Int) + (j : Int)) / 2 = (h : Int) := by omega
      have h0 : (0 : Int) ≤ (h : Int) := by omega
      have h1 : (h : Int) < (n : Int) := by omega
      have a1 : (m : Int) < (n : Int) := by omega
      have a0 : (0 : Int) ≤ (m : Int) := by omega
      have ij : (i : Int) < (j : Int) := by omega
      have jn : (j : Int) ≤ (n : Int) := by omega
      have HCC := hid hcc
      obtain ⟨⟨⟨⟨x1, x2⟩, x3⟩, x4⟩, x5⟩ := x
      obtain ⟨⟨⟨⟨y1, y2⟩, y3⟩, y4⟩, y5⟩ := y
      dsimp only at HTW cb
      clear hS hx p1 p2 hz hzl hi hj hcc hh hAl hM1 hMB1
      obtain ⟨D, hD⟩ : ∃ D, decide (z < 0) = D := ⟨_, rfl⟩
      have HD := hid hD
      cases D
      all_goals
        go_wp2_with fail
        refine wp_region_later (fun w' => Two g m h (((y1, y2), y3), y4) (((x1, x2), x3), x4) w') (fun z => Two.later HTW.out z) (by kernel_rfl) (by kernel_rfl) (fun HS => ?_)
        simp only [Two] at HS
        repeat (go_big_quiet_step (with_reducible exact Later.calls _ (cb.out _)))
        refine wpQuiet_nil ?_
        rintro w6 ⟨⟨_, hb6⟩, rfl⟩
        have HB6 := hid (held_next HSS.out.b hb6)
        clear hb6 HS cb HTW
        go_wp2_with fail
        go_roundw
      case rel => exact ⟨c + 1, v, h + 1, j, by go_num, rfl, by have := HCC.out; omega, HJ.out, hcv, HSS.out.vl, .inr ⟨_, HY.out, fun k => of_decide_eq_false HD.out (HZL.out.2 k)⟩, HSS.out.hi, HB6.out⟩
      case measure => simp [intOf]; omega
      case rel => exact ⟨u, c, i, h, rfl, by go_num, HI.out, by have := HCC.out; omega, huc, by have := HSS.out.vl; omega, HSS.out.lo, .inr ⟨_, HY.out, HZL.out.1 (of_decide_eq_true HD.out)⟩, HB6.out⟩
      case measure => simp [intOf]; omega
    · have huv' : u = v := by omega
      subst huv'
      have hju : i = j := by omega
      have HLO := hid hS.lo
      have HHI := hid hS.hi
      have HB := hid hS.b
      have HR0 := hid (show RowT wr g (A ++ (S.take l ++ y :: S.drop l) ++ B) Z by have := HH.out.below hS.b; rw [← HL.out, List.take_length, List.drop_length]; simpa using this)
      have HFIN := hid (show ∀ w' : World, RowT w' g (A ++ (S.take u ++ y :: S.drop u) ++ B) Z → Chg (· = g) w w' → SymPost g Z w A S [y] B (.returned (.tuple #[])) w' from fun w' h1 h2 => by
        obtain ⟨U, e, p, s⟩ := sym_last (A := A) (B := B) (y := y) (k := u) HT.out (take_lt HT.out (by rw [HL.out]; omega) (fun x h0 hx => by
            rcases HLO.out with h | ⟨z, hz, hl⟩
            · omega
            · rw [hx] at hz; injection hz with e; subst e; exact HX.out.le (List.mem_of_getElem? hx) (List.mem_singleton.2 rfl) hl)) (drop_lt HT.out (fun x hx => by
            rcases HHI.out with h | ⟨z, hz, hl⟩
            · rw [h, List.getElem?_eq_none (Nat.le_refl _)] at hx; cases hx
            · rw [hx] at hz; injection hz with e; subst e; exact .inl hl))
        exact ⟨rfl, U, p, s, by rw [← e]; exact h1, h2⟩)
      subst hju
      have HI := hid hi
      have hiM : i ≤ m := by omega
      have hiI : (i : Int) ≤ (m : Int) := by omega
      have hmn : (m : Int) < n := by omega
      have hiz : (0 : Int) ≤ (i : Int) := by omega
      clear hS hj hi HSS hM1 hMB1
      go_wp2_with fail
      go_loopw [17] (fun kv w' => S2Mv g Z A S B y a u w kv w') (fun kv _ => (intOf kv).toNat)
      case atStart => exact ⟨l, m, hvl, by rw [HL.out]; exact Nat.le_refl _, rfl, HM.out, HR0.out, Chg.of_below HB.out _⟩
      case round =>
        obtain ⟨c, k, huc, hcl, rfl, hk, hR, hC⟩ := hrel
        rw [HL.out] at hcl
        have HC := hid hC
        have HK := hid hk
        have hIo := HI.out
        have hMo := HM.out
        by_cases htu : u < c
        · obtain ⟨c', hc'⟩ : ∃ c', c = c' + 1 := ⟨c - 1, by omega⟩
          subst hc'
          obtain ⟨z, hz⟩ : ∃ z, S[c']? = some z := ⟨_, List.getElem?_eq_getElem (by rw [HL.out]; omega)⟩
          obtain ⟨p, hp⟩ : ∃ p, a + c' = p := ⟨_, rfl⟩
          have hkp : k = p + 1 := by omega
          obtain ⟨s1, s2, s3⟩ := s2_step (A := A) (B := B) (y := y) (by rw [HA.out]; exact hp) hkp hz
          have HSW := hid (show RowT (st4 (st4 wr g k z.1) g p y.1).drew g (A ++ (S.take c' ++ y :: S.drop c') ++ B) Z by rw [← s3]; exact Blk.drew (hR.swap s1 s2))
          have HCW := hid (show Chg (· = g) w (st4 (st4 wr g k z.1) g p y.1).drew from ((hC.trans' (st4_chg _ _ _ _)).trans' (st4_chg _ _ _ _)).drew)
          obtain ⟨c0, c1, c2, c3⟩ := hR.cells s1
          obtain ⟨d0, d1, d2, d3⟩ := hR.cells s2
          have f0 := hR.frozen (k * 4)
          have f1 := hR.frozen (k * 4 + 1)
          have f2 := hR.frozen (k * 4 + 2)
          have f3 := hR.frozen (k * 4 + 3)
          have g0 := hR.frozen (p * 4)
          have g1 := hR.frozen (p * 4 + 1)
          have g2 := hR.frozen (p * 4 + 2)
          have g3 := hR.frozen (p * 4 + 3)
          have e2 : IntKind.i64.wrap ((k : Int) - 1) = (p : Int) := by rw [IntKind.wrap_i64]; omega
          have i0 : (0 : Int) ≤ (k : Int) := by omega
          have i1 : (k : Int) < (n : Int) := by omega
          have j0 : (0 : Int) ≤ (p : Int) := by omega
          have j1 : (p : Int) < (n : Int) := by omega
          have n1 : ¬ k = p := by omega
          have n2 : ¬ p = k := by omega
          have kq : (i : Int) < (k : Int) := by omega
          have hkq : p < k := by omega
          have e3 : (k : Int) - 1 = (p : Int) := by omega
          have HPO := hid hp
          obtain ⟨⟨⟨⟨x1, x2⟩, x3⟩, x4⟩, x5⟩ := z
          obtain ⟨⟨⟨⟨y1, y2⟩, y3⟩, y4⟩, y5⟩ := y
          simp only at c0 c1 c2 c3 d0 d1 d2 d3 HSW HCW
          clear hR hC hz s1 s2 s3 hk hp hkp hIo hMo
          go_wp2_with fail
          go_region
          clear c0 c1 c2 c3 d0 d1 d2 d3 f0 f1 f2 f3 g0 g1 g2 g3 n1 n2
          go_wp2_with fail
          go_roundw
          case rel => exact ⟨c', p, by omega, by rw [HL.out]; omega, by go_num, HPO.out, HSW.out, HCW.out⟩
          case measure => simp [intOf]; omega
        · have htu' : c = u := by omega
          have hkq : k = i := by omega
          subst hkq
          rw [htu'] at hR
          have HF := hid (HFIN.out _ hR HC.out)
          clear hR hC hk htu' hIo hMo
          go_wp2_with fail
          go_returns
          exact HF.out

end Go.Proofs.Ytcchjljdhjkmeaa
