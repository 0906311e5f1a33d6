/-
  Sorting routes stably, as the library does: one route put among many in order. No condition.
-/
import Derived.Test.YtcchjljdhjkmeaaStab3
namespace Go.Proofs.Ytcchjljdhjkmeaa
open Go.RowKit
set_option linter.unusedVariables false
set_option linter.unusedSimpArgs false
set_option maxRecDepth 100000

def SymPost (g : Nat) (Z : List Value) (w : World) (A S T B : List Tg) (e : Ending) (w' : World) : Prop :=
  e = .returned (.tuple #[]) ∧ ∃ U : List Tg, U.Perm (S ++ T) ∧ U.Pairwise tl ∧ RowT w' g (A ++ U ++ B) Z ∧ Chg (· = g) w w'
/-- Eight cells: two routes. -/
def Two (g i j : Nat) (x y : Rt) (w : World) : Prop :=
  w.cell? ⟨g, i * 4, none⟩ = some (.int .u64 (x.1.1.1 : Int)) ∧ w.cell? ⟨g, i * 4 + 1, none⟩ = some (.int .u64 (x.1.1.2 : Int)) ∧ w.cell? ⟨g, i * 4 + 2, none⟩ = some (.int .i64 x.1.2) ∧ w.cell? ⟨g, i * 4 + 3, none⟩ = some (.int .i64 x.2) ∧
  w.cell? ⟨g, j * 4, none⟩ = some (.int .u64 (y.1.1.1 : Int)) ∧ w.cell? ⟨g, j * 4 + 1, none⟩ = some (.int .u64 (y.1.1.2 : Int)) ∧ w.cell? ⟨g, j * 4 + 2, none⟩ = some (.int .i64 y.1.2) ∧ w.cell? ⟨g, j * 4 + 3, none⟩ = some (.int .i64 y.2)
theorem RowT.two {w : World} {g : Nat} {L : List Tg} {Z : List Value} (h : RowT w g L Z) {i j : Nat} {x y : Tg} (hx : L[i]? = some x) (hy : L[j]? = some y) : Two g i j x.1 y.1 w := by
  obtain ⟨a, b, c, d⟩ := h.cells hx
  obtain ⟨e, f, k, l⟩ := h.cells hy
  exact ⟨a, b, c, d, e, f, k, l⟩
theorem Two.later {g i j : Nat} {x y : Rt} {w : World} (h : Two g i j x y w) (z : Later w) : Two g i j x y z.w :=
  ⟨z.cell h.1, z.cell h.2.1, z.cell h.2.2.1, z.cell h.2.2.2.1, z.cell h.2.2.2.2.1, z.cell h.2.2.2.2.2.1, z.cell h.2.2.2.2.2.2.1, z.cell h.2.2.2.2.2.2.2⟩

structure S1St (g : Nat) (Z : List Value) (A T B : List Tg) (x : Tg) (m u v : Nat) (w0 wr : World) : Prop where
  uv : u ≤ v
  vl : v ≤ T.length
  lo : u = 0 ∨ ∃ z, T[u - 1]? = some z ∧ z.1.1.lt x.1.1
  hi : v = T.length ∨ ∃ z, T[v]? = some z ∧ ¬ z.1.1.lt x.1.1
  b : Below w0.heap.size w0 wr
def S1Rel (g : Nat) (Z : List Value) (A T B : List Tg) (x : Tg) (m : Nat) (w0 : World) (iv jv : Value) (wr : World) : Prop :=
  ∃ u v i j : Nat, iv = .int .i64 i ∧ jv = .int .i64 j ∧ m + u = i ∧ m + v = j ∧ S1St g Z A T B x m u v w0 wr
def S1Mv (g : Nat) (Z : List Value) (A T B : List Tg) (x : Tg) (a u : Nat) (w0 : World) (kv : Value) (wr : World) : Prop :=
  ∃ t k : Nat, t ≤ u ∧ kv = .int .i64 k ∧ a + t = k ∧ RowT wr g (A ++ (T.take t ++ x :: T.drop t) ++ B) Z ∧ Chg (· = g) w0 wr
theorem s1_step {A T B : List Tg} {x y : Tg} {t k l : Nat} (hk : A.length + t = k) (hl : l = k + 1) (ht : T[t]? = some y) :
    (A ++ (T.take t ++ x :: T.drop t) ++ B)[k]? = some x ∧ (A ++ (T.take t ++ x :: T.drop t) ++ B)[l]? = some y ∧ ((A ++ (T.take t ++ x :: T.drop t) ++ B).set k y).set l x = A ++ (T.take (t + 1) ++ x :: T.drop (t + 1)) ++ B := by
  obtain ⟨h1, e1⟩ := List.getElem?_eq_some_iff.1 ht
  rw [List.take_succ_eq_append_getElem h1, List.drop_eq_getElem_cons h1, e1]
  have q1 : A ++ (T.take t ++ x :: (y :: T.drop (t + 1))) ++ B = (A ++ T.take t) ++ x :: (y :: (T.drop (t + 1) ++ B)) := by simp
  have q2 : (A ++ T.take t) ++ x :: (y :: (T.drop (t + 1) ++ B)) = (A ++ T.take t ++ [x]) ++ y :: (T.drop (t + 1) ++ B) := by simp
  have q3 : (A ++ T.take t) ++ y :: (y :: (T.drop (t + 1) ++ B)) = (A ++ T.take t ++ [y]) ++ y :: (T.drop (t + 1) ++ B) := by simp
  have hlen : (A ++ T.take t).length = k := by rw [List.length_append, List.length_take]; omega
  refine ⟨?_, ?_, ?_⟩
  · rw [q1]; exact at_pre hlen.symm
  · rw [q1, q2]; exact at_pre (by rw [List.length_append, hlen, List.length_singleton]; exact hl)
  · rw [q1, set_mid hlen.symm, q3, set_mid (by rw [List.length_append, hlen, List.length_singleton]; exact hl)]; simp

set_option maxHeartbeats 2000000 in
theorem st_sym1 {w : World} {g cap n a m b : Nat} {A T B : List Tg} {x : Tg} {Z : List Value} (H : RowT w g (A ++ [x] ++ T ++ B) Z) (hn : A.length + 1 + T.length + B.length = n) (ha : A.length = a) (hm : a + 1 = m) (hb : m + T.length = b) (hT : T.Pairwise tl) (hX : CrossT [x] T) (hc : n ≤ cap) (hcm : n ≤ 4000000000000000000 ∧ cap ≤ 9223372036854775807) :
    Calls Try.prog 69 #[.slice (some ⟨g, 0, none⟩) n cap, .int .i64 (a : Int), .int .i64 (m : Int), .int .i64 (b : Int), .func (.func 40) #[] #[]] w (SymPost g Z w A [x] T B) := by
  have HH := hid H
  have HT := hid hT
  have HX := hid hX
  have HA := hid ha
  obtain ⟨l, hl⟩ : ∃ l, T.length = l := ⟨_, rfl⟩
  have HL := hid hl
  rw [hl] at hb hn
  have HS0 := hid (show S1St g Z A T B x m 0 l w w from ⟨Nat.zero_le _, by omega, .inl rfl, .inl hl.symm, Below.refl _ _⟩)
  have k1 : (m : Int) - (a : Int) = 1 := by omega
  have hbn : b ≤ n := by omega
  have hbi : (b : Int) ≤ n := by omega
  have hmb := hb
  have HMB := hid hmb
  have HM := hid hm
  clear H hT hX ha hl hn hmb
  go_enter Try.func69, Try.ntmps69
  go_wp2_with fail
  go_loopw [10, 11] (fun iv jv wr => S1Rel g Z A T B x m w iv jv wr) (fun iv jv _ => (intOf jv).toNat - (intOf iv).toNat)
  case atStart => exact ⟨0, l, m, b, rfl, rfl, rfl, HMB.out, HS0.out⟩
  case round =>
    obtain ⟨u, v, i, j, rfl, rfl, hi, hj, hS⟩ := hrel
    clear HS0
    have huv := hS.uv
    have hvl := hS.vl
    rw [HL.out] at hvl
    have HSS := hid hS
    by_cases hlt : u < v
    · obtain ⟨h, hh⟩ : ∃ h, (i + j) / 2 = h := ⟨_, rfl⟩
      obtain ⟨c, hcc⟩ : ∃ c, h = m + c := ⟨h - m, by omega⟩
      have huc : u ≤ c := by omega
      have hcv : c < v := by omega
      obtain ⟨y, hy⟩ : ∃ y, T[c]? = some y := ⟨_, List.getElem?_eq_getElem (by rw [HL.out]; omega)⟩
      have hAl := HA.out
      have hM1 := HM.out
      have p1 : (A ++ [x] ++ T ++ B)[h]? = some y := by
        have q : A ++ [x] ++ T ++ B = (A ++ [x]) ++ T ++ B := by simp
        rw [q, hcc, at_mid (by simp; omega) (by rw [HL.out]; omega)]; exact hy
      have p2 : (A ++ [x] ++ T ++ B)[a]? = some x := by
        have q : A ++ [x] ++ T ++ B = A ++ x :: (T ++ B) := by simp
        rw [q]; exact at_pre hAl.symm
      have HTW := hid ((HH.out.below hS.b).two p1 p2)
      have HY := hid hy
      have cb := hid (fun w => srt_cmp y.1 x.1 w)
      obtain ⟨z, hz⟩ : ∃ z, y.1.1.cmp x.1.1 = z := ⟨_, rfl⟩
      have hzl := srt_cmpn y.1 x.1
      rw [hz] at cb hzl
      have HZL := hid hzl
      have HI := hid hi
      have HJ := hid hj
      have e1 : ((i : Int) + (j : Int)) / 2 = (h : Int) := by omega
      have h0 : (0 : Int) ≤ (h : Int) := by omega
      have h1 : (h : Int) < (n : Int) := by omega
      have a1 : (a : Int) < (n : Int) := by omega
      have a0 : (0 : Int) ≤ (a : Int) := by omega
      have ij : (i : Int) < (j : Int) := by omega
      have jn : (j : Int) ≤ (n : Int) := by omega
      have HCC := hid hcc
      obtain ⟨⟨⟨⟨x1, x2⟩, x3⟩, x4⟩, x5⟩ := x
      obtain ⟨⟨⟨⟨y1, y2⟩, y3⟩, y4⟩, y5⟩ := y
      dsimp only at HTW cb
      clear hS hy p1 p2 hz hzl hi hj hcc hh hAl hM1
      by_cases hneg : z < 0
      all_goals
        go_wp2_with fail
        refine wp_region_later (fun w' => Two g h a (((y1, y2), y3), y4) (((x1, x2), x3), x4) w') (fun z => Two.later HTW.out z) (by kernel_rfl) (by kernel_rfl) (fun HS => ?_)
        simp only [Two] at HS
        repeat (go_big_quiet_step (with_reducible exact Later.calls _ (cb.out _)))
        refine wpQuiet_nil ?_
        rintro w6 ⟨⟨_, hb6⟩, rfl⟩
        have HB6 := hid (held_next HSS.out.b hb6)
        clear hb6 HS cb HTW
        go_wp2_with fail
        go_roundw
      case rel => exact ⟨c + 1, v, h + 1, j, by go_num, rfl, by have := HCC.out; omega, HJ.out, hcv, HSS.out.vl, .inr ⟨_, HY.out, HZL.out.1 hneg⟩, HSS.out.hi, HB6.out⟩
      case measure => simp [intOf]; omega
      case rel => exact ⟨u, c, i, h, rfl, by go_num, HI.out, by have := HCC.out; omega, huc, by have := HSS.out.vl; omega, HSS.out.lo, .inr ⟨_, HY.out, fun k => by have := HZL.out.2 k; omega⟩, HB6.out⟩
      case measure => simp [intOf]; omega
    · have huv' : u = v := by omega
      subst huv'
      have hju : i = j := by omega
      have HLO := hid hS.lo
      have HHI := hid hS.hi
      have HB := hid hS.b
      have HR0 := hid (show RowT wr g (A ++ (T.take 0 ++ x :: T.drop 0) ++ B) Z by have := HH.out.below hS.b; simpa using this)
      have HFIN := hid (show ∀ w' : World, RowT w' g (A ++ (T.take u ++ x :: T.drop u) ++ B) Z → Chg (· = g) w w' → SymPost g Z w A [x] T B (.returned (.tuple #[])) w' from fun w' h1 h2 => by
        obtain ⟨U, e, p, s⟩ := sym_one (A := A) (B := B) (x := x) (k := u) HT.out (take_lt HT.out (by rw [HL.out]; omega) (fun y h0 hy => by
            rcases HLO.out with h | ⟨z, hz, hl⟩
            · omega
            · rw [hy] at hz; injection hz with e; subst e; exact .inl hl)) (drop_lt HT.out (fun y hy => by
            rcases HHI.out with h | ⟨z, hz, hl⟩
            · rw [h, List.getElem?_eq_none (Nat.le_refl _)] at hy; cases hy
            · rw [hy] at hz; injection hz with e; subst e; exact HX.out.le (List.mem_singleton.2 rfl) (List.mem_of_getElem? hy) hl))
        exact ⟨rfl, U, p, s, by rw [← e]; exact h1, h2⟩)
      subst hju
      have HI := hid hi
      clear hS hj hi HSS
      obtain ⟨q, hq⟩ : ∃ q, a + u = q := ⟨_, rfl⟩
      have HQ := hid hq
      have e1 : (i : Int) - 1 = (q : Int) := by have := HI.out; have := HM.out; omega
      have hul := hvl
      have qn : (q : Int) < n := by have := HM.out; omega
      have qi : (i : Int) ≤ n := by have := HI.out; have := HM.out; omega
      have haq : a ≤ q := by omega
      clear hq
      go_wp2_with fail
      go_loopw [13] (fun kv w' => S1Mv g Z A T B x a u w kv w') (fun kv _ => q - (intOf kv).toNat)
      case atStart => exact ⟨0, a, Nat.zero_le _, rfl, rfl, HR0.out, Chg.of_below HB.out _⟩
      case round =>
        obtain ⟨t, k, ht, rfl, hk, hR, hC⟩ := hrel
        have HC := hid hC
        have HK := hid hk
        by_cases htu : t < u
        · obtain ⟨y, hy⟩ : ∃ y, T[t]? = some y := ⟨_, List.getElem?_eq_getElem (by rw [HL.out]; omega)⟩
          obtain ⟨j, hj⟩ : ∃ j, k + 1 = j := ⟨_, rfl⟩
          obtain ⟨s1, s2, s3⟩ := s1_step (A := A) (B := B) (x := x) (by rw [HA.out]; exact hk) hj.symm hy
          have HSW := hid (show RowT (st4 (st4 wr g k y.1) g j x.1).drew g (A ++ (T.take (t + 1) ++ x :: T.drop (t + 1)) ++ B) Z by rw [← s3]; exact Blk.drew (hR.swap s1 s2))
          have HCW := hid (show Chg (· = g) w (st4 (st4 wr g k y.1) g j x.1).drew from ((hC.trans' (st4_chg _ _ _ _)).trans' (st4_chg _ _ _ _)).drew)
          obtain ⟨c0, c1, c2, c3⟩ := hR.cells s1
          obtain ⟨d0, d1, d2, d3⟩ := hR.cells s2
          have f0 := hR.frozen (k * 4)
          have f1 := hR.frozen (k * 4 + 1)
          have f2 := hR.frozen (k * 4 + 2)
          have f3 := hR.frozen (k * 4 + 3)
          have g0 := hR.frozen (j * 4)
          have g1 := hR.frozen (j * 4 + 1)
          have g2 := hR.frozen (j * 4 + 2)
          have g3 := hR.frozen (j * 4 + 3)
          have hQo := HQ.out
          have e2 : IntKind.i64.wrap ((k : Int) + 1) = (j : Int) := by rw [IntKind.wrap_i64]; omega
          have i0 : (0 : Int) ≤ (k : Int) := by omega
          have i1 : (k : Int) < (n : Int) := by omega
          have j0 : (0 : Int) ≤ (j : Int) := by omega
          have j1 : (j : Int) < (n : Int) := by omega
          have n1 : ¬ k = j := by omega
          have n2 : ¬ j = k := by omega
          have kq : (k : Int) < (q : Int) := by omega
          have hkq : k < q := by omega
          obtain ⟨⟨⟨⟨x1, x2⟩, x3⟩, x4⟩, x5⟩ := x
          obtain ⟨⟨⟨⟨y1, y2⟩, y3⟩, y4⟩, y5⟩ := y
          simp only at c0 c1 c2 c3 d0 d1 d2 d3 HSW HCW
          clear hR hC hy s1 s2 s3 hk hj hQo
          go_wp2_with fail
          go_region
          clear c0 c1 c2 c3 d0 d1 d2 d3 f0 f1 f2 f3 g0 g1 g2 g3 e2 j0 j1 n1 n2
          go_wp2_with fail
          go_roundw
          case rel => exact ⟨t + 1, k + 1, htu, by go_num, by have := HK.out; omega, HSW.out, HCW.out⟩
          case measure => simp [intOf]; omega
        · have htu' : t = u := by omega
          have hkq : k = q := by have := HQ.out; omega
          subst hkq
          rw [htu'] at hR
          have HF := hid (HFIN.out _ hR HC.out)
          clear hR hC hk htu'
          go_wp2_with fail
          go_returns
          exact HF.out

end Go.Proofs.Ytcchjljdhjkmeaa
