/-
  The walk of the law FilterOrder: for all inputs it returns true and leaves memory alone. No condition.
-/
import Derived.Test.YtpjjijhojcfmnaaFilLaw
import Derived.Test.YtpjjijhojcfmnaaAddrOpen
namespace Go.Proofs.Ytpjjijhojcfmnaa
open Go.RowKit
set_option linter.unusedVariables false
set_option linter.unusedSimpArgs false
set_option maxRecDepth 100000

/-- Each counter is how often it is in a list, and 15 at most. -/
structure Exa (m : Nat) (c L : List Nat) : Prop where
  len : c.length = m
  le : Le15 c
  cnt : ∀ i, i < m → c.getD i 0 = min 15 (L.count i)
theorem Exa.zero (m : Nat) : Exa m (List.replicate m 0) [] := ⟨List.length_replicate, Le15.zero m, fun i hi => by simp [hi]⟩
theorem Exa.add {m : Nat} {c L : List Nat} (h : Exa m c L) (K : List Nat) {L' : List Nat} (hL : ∀ i, L'.count i = L.count i + K.count i) : Exa m (addC K c) L' := by
  refine ⟨by rw [addC_len]; exact h.len, h.le.add K, fun i hi => ?_⟩
  have h1 := addC_get i K c h.le (by rw [h.len]; exact hi)
  have h2 := h.cnt i hi
  have h3 := hL i
  omega
theorem Exa.eq {m : Nat} {c d L K : List Nat} (h : Exa m c L) (h' : Exa m d K) (hL : ∀ i, L.count i = K.count i) : c = d := by
  apply List.ext_getElem (by rw [h.len, h'.len])
  intro i h1 h2
  have e1 := h.cnt i (by rw [← h.len]; exact h1)
  have e2 := h'.cnt i (by rw [← h'.len]; exact h2)
  rw [hL, ← e2] at e1
  simpa [h1, h2] using e1
def EPost (W w : World) (f : Nat) (F : Nat → Prop) (s : Nat) (k : Int) (m : Nat) (L : List Nat) (e : Ending) (w' : World) : Prop := e = .returned (.tuple #[]) ∧ ∃ c', Flt w' f F s k c' ∧ Exa m c' L ∧ Below W.heap.size W w' ∧ Chg F w w'
theorem exa_add {W w : World} {f s : Nat} {F : Nat → Prop} {k : Int} {c L : List Nat} {m : Nat} (h : Flt w f F s k c) (T : Exa m c L) (hB : Below W.heap.size W w) (hF : ∀ x, F x → W.heap.size ≤ x) (p : Pf) (hp : p.1.ok) {L' : List Nat} (hL : ∀ i, L'.count i = L.count i + (placesN s p k m).count i) :
    Calls Try.prog 17 #[.pointer (some ⟨f, 0, none⟩), .agg #[.int .u64 (p.1.1 : Int), .int .u64 (p.1.2 : Int), .int .i64 p.2]] w (EPost W w f F s k m L') :=
  (filter_add h p hp).mono fun e w' ⟨h1, h2, h3⟩ => ⟨h1, _, h2, T.add _ (by rw [T.len]; exact hL), hB.trans (h3.below hB.size fun i hi hf => by have := hF i hf; omega), h3⟩

theorem filterOrder_out (W : World) (s : Nat) (k m : Int) (A1 : Option Addr) (c1 n1 : Nat) (h1 : n1 ≤ c1) (hc1 : c1 ≤ maxLen) (h : ¬ (1 ≤ k ∧ k ≤ 16 ∧ 1 ≤ m ∧ m ≤ 300 ∧ n1 ≤ 60)) :
    Calls Try.prog 4 #[.int .u64 (s : Int), .int .i64 k, .int .i64 m, .slice A1 n1 c1] W fun e W' => e = .returned (.bool true) ∧ Below W.heap.size W W' := by
  unfold maxLen at hc1
  go_enter Try.func4, Try.ntmps4
  go_wp2_with fail
  refine (filter_alive _).mono ?_
  rintro e w1 ⟨rfl, hb⟩
  go_wp2_with fail
  all_goals (go_ret; exact ⟨rfl, hb⟩)

def OrdRel (W : World) (f : Nat) (F : Nat → Prop) (g : Nat) (G : Nat → Prop) (s : Nat) (k : Int) (m : Nat) (l : List Pf) (N : Nat) (i : Value) (wr : World) : Prop :=
  ∃ (j : Nat) (c d : List Nat), j ≤ N ∧ i = .int .i64 j ∧ Flt wr f F s k c ∧ Exa m c ((l.take j).flatMap (fun p => placesN s p k m)) ∧ Flt wr g G s k d ∧ Exa m d ((l.drop (N - j)).flatMap (fun p => placesN s p k m)) ∧ Below W.heap.size W wr

set_option maxHeartbeats 4000000 in
theorem filterOrder_in (W : World) (s : Nat) (hs : s < 2 ^ 64) (k : Int) (m : Nat) (hk1 : 1 ≤ k) (hk2 : k ≤ 16) (hm1 : 1 ≤ m) (hm2 : m ≤ 300) (v1 : Value) (l1 : List Pf) (R1 : Rd pfEn 3 W v1 l1)
    (o1 : ∀ p ∈ l1, p.1.ok) (hl1 : l1.length ≤ 60) :
    Calls Try.prog 4 #[.int .u64 (s : Int), .int .i64 k, .int .i64 (m : Int), v1] W fun e W' => e = .returned (.bool true) ∧ Below W.heap.size W W' := by
  have HR1 := hid fun k x (h : l1[k]? = some x) => R1.get pfE_len (by decide) h
  have O1 := hid fun (k : Nat) (x : Pf) (h : l1[k]? = some x) => o1 x (List.mem_of_getElem? h)
  obtain ⟨A1, k1, rfl, n1, m1⟩ := R1.form
  unfold maxLen at m1
  obtain ⟨N, hN1⟩ : ∃ N, l1.length = N := ⟨_, rfl⟩
  have HN1 := hid hN1
  rw [hN1] at n1 hl1 ⊢
  have cnew := hid fun w => filter_new s hs k m hk1 hk2 hm1 (by omega) w
  clear R1 o1 hN1 hs
  have d5 : decide (k < 1) = false := decide_eq_false (by omega)
  have d6 : decide (16 < k) = false := decide_eq_false (by omega)
  have d1 : decide ((m : Int) < 1) = false := decide_eq_false (by omega)
  have d2 : decide ((300 : Int) < (m : Int)) = false := decide_eq_false (by omega)
  have d3 : decide ((60 : Int) < (N : Int)) = false := decide_eq_false (by omega)
  go_enter Try.func4, Try.ntmps4
  go_wp2_with fail
  refine (filter_alive _).mono ?_
  rintro e w1 ⟨rfl, hb⟩
  have HB := hid hb
  clear hb
  go_wp2_with fail
  refine (cnew.out _).mono ?_
  rintro _ w2 ⟨f, F, rfl, hX, hF, hb2⟩
  have HF := hid (show ∀ x, F x → W.heap.size ≤ x from fun x hx => Nat.le_trans HB.out.size (hF x hx).1)
  have HFU := hid (show ∀ x, F x → x < w2.heap.size from fun x hx => (hF x hx).2)
  have HX := hid hX
  have HB2 := hid (held_next HB.out hb2)
  clear hX hF hb2 HB
  go_wp2_with fail
  refine (cnew.out _).mono ?_
  rintro _ w3 ⟨g, G, rfl, hY, hG, hb3⟩
  have HG := hid (show ∀ x, G x → W.heap.size ≤ x from fun x hx => Nat.le_trans HB2.out.size (hG x hx).1)
  have HFG := hid (show ∀ x, F x → ¬ G x from fun x hx hy => by have := HFU.out x hx; have := (hG x hy).1; omega)
  have HX3 := hid (HX.out.below hb3)
  have HY := hid hY
  have HB3 := hid (held_next HB2.out hb3)
  clear hY hG hb3 HB2 HX HFU cnew
  go_wp2_with fail
  refine (law9_num _ _).mono ?_
  rintro _ w4 ⟨rfl, rfl⟩
  go_wp2_with fail
  go_loopw [14] (fun i wr => OrdRel W f F g G s k m l1 N i wr) (fun i _ => N - (intOf i).toNat)
  case atStart => exact ⟨0, _, _, Nat.zero_le _, rfl, HX3.out, Exa.zero m, HY.out, by rw [List.drop_eq_nil_of_le (by rw [HN1.out]; omega)]; exact Exa.zero m, HB3.out⟩
  case round =>
    clear HX3 HY HB3
    obtain ⟨j, c, d, hj, rfl, hX, hT, hY, hU, hB⟩ := hrel
    have HX := hid hX
    have HT := hid hT
    have HY := hid hY
    have HU := hid hU
    have HB := hid hB
    clear hX hT hB hY hU
    by_cases h1 : j < N
    · obtain ⟨x, hx⟩ : ∃ x, l1[j]? = some x := ⟨_, List.getElem?_eq_getElem (by rw [HN1.out]; exact h1)⟩
      obtain ⟨ba, oa, ca, hv, _, _, la, sa⟩ := HR1.out j x hx
      injection hv with hA hxx hc
      subst hA hc
      have y0 : wr.cell? ⟨ba, oa + j * 3, none⟩ = some (.int .u64 (x.1.1 : Int)) := (HB.out.cell (p := ⟨ba, oa + j * 3, none⟩) la).trans (sa 0 _ rfl)
      have y1 : wr.cell? ⟨ba, oa + j * 3 + 1, none⟩ = some (.int .u64 (x.1.2 : Int)) := (HB.out.cell (p := ⟨ba, oa + j * 3 + 1, none⟩) la).trans (sa 1 _ rfl)
      have y2 : wr.cell? ⟨ba, oa + j * 3 + 2, none⟩ = some (.int .i64 x.2) := (HB.out.cell (p := ⟨ba, oa + j * 3 + 2, none⟩) la).trans (sa 2 _ rfl)
      have ca := hid (exa_add HX.out HT.out HB.out HF.out x (O1.out j x hx) (L' := (l1.take (j + 1)).flatMap (fun p => placesN s p k m)) (fun i => count_flat_take _ hx i))
      obtain ⟨⟨x1, x2⟩, x3⟩ := x
      clear sa hxx hx HX HT HB
      go_wp2_with fail
      refine ca.out.mono ?_
      rintro _ w4 ⟨rfl, c4, hX4, hT4, hB4, hC4⟩
      have HX4 := hid hX4
      have HT4 := hid hT4
      have HB4 := hid hB4
      have HY4 := hid (HY.out.chg hC4 fun x hx hf => HFG.out x hf hx)
      clear hX4 hT4 hB4 hC4 ca y0 y1 y2 HY
      obtain ⟨q, hq⟩ : ∃ q, N - 1 - j = q := ⟨_, rfl⟩
      have hqN : q < N := by omega
      have e1 : (N : Int) - 1 - (j : Int) = (q : Int) := by omega
      obtain ⟨x, hx⟩ : ∃ x, l1[q]? = some x := ⟨_, List.getElem?_eq_getElem (by rw [HN1.out]; exact hqN)⟩
      obtain ⟨ba2, oa2, ca2, hv, _, _, la, sa⟩ := HR1.out q x hx
      injection hv with hA hxx hc
      injection hA with hA
      injection hA with hA1 hA2
      subst hA1 hA2 hc
      have y0 : w4.cell? ⟨ba, oa + q * 3, none⟩ = some (.int .u64 (x.1.1 : Int)) := (HB4.out.cell (p := ⟨ba, oa + q * 3, none⟩) la).trans (sa 0 _ rfl)
      have y1 : w4.cell? ⟨ba, oa + q * 3 + 1, none⟩ = some (.int .u64 (x.1.2 : Int)) := (HB4.out.cell (p := ⟨ba, oa + q * 3 + 1, none⟩) la).trans (sa 1 _ rfl)
      have y2 : w4.cell? ⟨ba, oa + q * 3 + 2, none⟩ = some (.int .i64 x.2) := (HB4.out.cell (p := ⟨ba, oa + q * 3 + 2, none⟩) la).trans (sa 2 _ rfl)
      have ca := hid (exa_add HY4.out HU.out HB4.out HG.out x (O1.out q x hx) (L' := (l1.drop q).flatMap (fun p => placesN s p k m)) (fun i => by
        have := count_flat_drop (fun p => placesN s p k m) hx i
        rw [show q + 1 = N - j by omega] at this; exact this))
      have HQ := hid (show q = N - (j + 1) by omega)
      obtain ⟨⟨x1, x2⟩, x3⟩ := x
      clear sa hxx hx HY4 HU HB4 hq
      go_wp2_with fail
      refine ca.out.mono ?_
      rintro _ w5 ⟨rfl, c5, hX5, hT5, hB5, hC5⟩
      have HX5 := hid (HX4.out.chg hC5 fun x hx hf => HFG.out x hx hf)
      have HY5 := hid hX5
      have HT5 := hid hT5
      have HB5 := hid hB5
      clear hX5 hT5 hB5 hC5 ca y0 y1 y2 HX4
      go_wp2_with fail
      go_roundw
      case rel => exact ⟨j + 1, c4, c5, by omega, by go_num, HX5.out, HT4.out, HY5.out, by rw [← HQ.out]; exact HT5.out, HB5.out⟩
      case measure => simp [intOf]; omega
    · have hjN : j = N := by omega
      subst hjN
      have hcd : c = d := HT.out.eq HU.out (fun i => by rw [List.take_of_length_le (by rw [HN1.out]; omega), Nat.sub_self, List.drop_zero])
      subst hcd
      have hlen := HT.out.len
      have HLen := hid hlen
      clear hlen h1
      go_wp2_with fail
      go_loop [15] (fun i => ∃ j : Nat, j ≤ m ∧ i = .int .i64 j) (fun i => m - (intOf i).toNat)
      case atStart => exact ⟨0, Nat.zero_le _, rfl⟩
      case round =>
        obtain ⟨q, hq, rfl⟩ := hrel
        by_cases hqm : q < m
        · have a1 := hid (filter_counter HX.out (q : Int) _ rfl)
          have a2 := hid (filter_counter HY.out (q : Int) _ rfl)
          have a3 := hid (filter_on HX.out (q : Int) _ rfl)
          have a4 := hid (filter_on HY.out (q : Int) _ rfl)
          generalize at0 c (q : Int) = z at a1 a2
          generalize on0 (onB c) (q : Int) = b at a3 a4
          go_wp2_with fail
          refine a1.out.mono ?_
          rintro _ w5 ⟨rfl, rfl⟩
          go_wp2_with fail
          refine a2.out.mono ?_
          rintro _ w5 ⟨rfl, rfl⟩
          go_wp2_with fail
          refine a3.out.mono ?_
          rintro _ w5 ⟨rfl, rfl⟩
          go_wp2_with fail
          refine a4.out.mono ?_
          rintro _ w5 ⟨rfl, rfl⟩
          go_wp2_with fail
          go_round
          case rel => exact ⟨q + 1, by omega, by go_num⟩
          case measure => simp [intOf]; omega
        · have a1 := hid (filter_full HX.out)
          have a2 := hid (filter_full HY.out)
          generalize fulls c = z at a1 a2
          go_wp2_with fail
          refine a1.out.mono ?_
          rintro _ w5 ⟨rfl, rfl⟩
          go_wp2_with fail
          refine a2.out.mono ?_
          rintro _ w5 ⟨rfl, rfl⟩
          go_wp2_with fail
          go_ret
          exact ⟨by simp, HB.out⟩

theorem filterOrder_walk (W : World) (s : Int) (ws : (Lit.int .u64 s).wf = true) (k : Int) (_ : (Lit.int .i64 k).wf = true) (m : Int) (_ : (Lit.int .i64 m).wf = true) (v1 : Value) (l1 : List Pf) (R1 : Rd pfEn 3 W v1 l1) (o1 : ∀ p ∈ l1, Pf.fit p) :
    Calls Try.prog 4 #[.int .u64 s, .int .i64 k, .int .i64 m, v1] W fun e W' => e = .returned (.bool true) ∧ Below W.heap.size W W' := by
  have hs := wf_u64 ws
  obtain ⟨s, rfl⟩ := Int.eq_ofNat_of_zero_le hs.1
  by_cases h : 1 ≤ k ∧ k ≤ 16 ∧ 1 ≤ m ∧ m ≤ 300 ∧ l1.length ≤ 60
  · obtain ⟨m, rfl⟩ := Int.eq_ofNat_of_zero_le (show 0 ≤ m by omega)
    exact filterOrder_in W s (by omega) k m h.1 h.2.1 (by omega) (by omega) v1 l1 R1 (fun p hp => (o1 p hp).1) h.2.2.2.2
  · obtain ⟨A1, c1, rfl, n1, m1⟩ := R1.form
    exact filterOrder_out W s k m A1 c1 _ n1 m1 h

end Go.Proofs.Ytpjjijhojcfmnaa
