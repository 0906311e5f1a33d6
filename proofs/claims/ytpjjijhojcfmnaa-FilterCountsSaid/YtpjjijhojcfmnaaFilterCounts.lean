/-
  The walk of the law FilterCounts: for all inputs it returns true and leaves memory alone. No condition.
-/
import Derived.Test.YtpjjijhojcfmnaaFilLaw
import Derived.Test.YtpjjijhojcfmnaaRefPick
import Derived.Test.YtpjjijhojcfmnaaAddrOpen
namespace Go.Proofs.Ytpjjijhojcfmnaa
open Go.RowKit
set_option linter.unusedVariables false
set_option linter.unusedSimpArgs false
set_option maxRecDepth 100000

/-- Each counter is how often it is in a list, and none is full. -/
structure Exc (m : Nat) (c L : List Nat) : Prop where
  len : c.length = m
  le : Le15 c
  cnt : ∀ i, i < m → c.getD i 0 = L.count i ∧ c.getD i 0 < 15
theorem Trk.exc {m : Nat} {c L : List Nat} (h : Trk m c L) (h0 : fulls c = 0) : Exc m c L := by
  refine ⟨h.len, h.le, fun i hi => ?_⟩
  have h1 := h.cnt i hi
  have hne : c.getD i 0 ≠ 15 := by
    intro e
    unfold fulls at h0
    rw [List.length_eq_zero_iff, List.filter_eq_nil_iff] at h0
    have hl : i < c.length := by rw [h.len]; exact hi
    have := h0 c[i] (List.getElem_mem hl)
    rw [List.getD_eq_getElem?_getD, List.getElem?_eq_getElem hl] at e
    simp at e this
    exact this e
  have := h.le i
  omega
theorem Exc.rem {m : Nat} {c L : List Nat} (h : Exc m c L) (K : List Nat) {L' : List Nat} (hL : ∀ i, L.count i = L'.count i + K.count i) : Exc m (remC K c) L' := by
  refine ⟨by rw [remC_len]; exact h.len, h.le.rem K, fun i hi => ?_⟩
  have h1 := remC_get i K c h.le (by rw [h.len]; exact hi)
  have h2 := h.cnt i hi
  have h3 := hL i
  rw [if_neg (by omega)] at h1
  omega
def CPost (W : World) (q : Nat) (tv : List Value) (f : Nat) (F : Nat → Prop) (s : Nat) (k : Int) (m : Nat) (L : List Nat) (e : Ending) (w' : World) : Prop := e = .returned (.tuple #[]) ∧ ∃ c', Flt w' f F s k c' ∧ Trk m c' L ∧ Blk w' q 3 tv ∧ Below W.heap.size W w'
def CPost2 (W : World) (q : Nat) (tv : List Value) (f : Nat) (F : Nat → Prop) (s : Nat) (k : Int) (m : Nat) (L : List Nat) (e : Ending) (w' : World) : Prop := e = .returned (.tuple #[]) ∧ ∃ c', Flt w' f F s k c' ∧ Exc m c' L ∧ Blk w' q 3 tv ∧ Below W.heap.size W w'
section
variable {W w : World} {f s : Nat} {F : Nat → Prop} {k : Int} {c L : List Nat} {m q : Nat} {tv : List Value}
theorem cnt_add (h : Flt w f F s k c) (T : Trk m c L) (hq : Blk w q 3 tv) (hqF : ¬ F q) (hB : Below W.heap.size W w) (hF : ∀ x, F x → W.heap.size ≤ x) (p : Pf) (hp : p.1.ok) {L' : List Nat} (hL : ∀ i, L'.count i = L.count i + (placesN s p k m).count i) :
    Calls Try.prog 17 #[.pointer (some ⟨f, 0, none⟩), .agg #[.int .u64 (p.1.1 : Int), .int .u64 (p.1.2 : Int), .int .i64 p.2]] w (CPost W q tv f F s k m L') :=
  (filter_add h p hp).mono fun e w' ⟨h1, h2, h3⟩ => ⟨h1, _, h2, T.add _ (by rw [T.len]; exact hL), hq.chg h3 hqF, hB.trans (h3.below hB.size fun i hi hf => by have := hF i hf; omega)⟩
theorem cnt_rem (h : Flt w f F s k c) (T : Exc m c L) (hq : Blk w q 3 tv) (hqF : ¬ F q) (hB : Below W.heap.size W w) (hF : ∀ x, F x → W.heap.size ≤ x) (p : Pf) (hp : p.1.ok) {L' : List Nat} (hL : ∀ i, L.count i = L'.count i + (placesN s p k m).count i) :
    Calls Try.prog 18 #[.pointer (some ⟨f, 0, none⟩), .agg #[.int .u64 (p.1.1 : Int), .int .u64 (p.1.2 : Int), .int .i64 p.2]] w (CPost2 W q tv f F s k m L') :=
  (filter_remove h p hp).mono fun e w' ⟨h1, h2, h3⟩ => ⟨h1, _, h2, T.rem _ (by rw [T.len]; exact hL), hq.chg h3 hqF, hB.trans (h3.below hB.size fun i hi hf => by have := hF i hf; omega)⟩
end
/-- How often each number is in a list. -/
def tal (m : Nat) (L : List Nat) : List Value := (List.range m).map fun i => .int .i64 ((L.count i : Nat) : Int)
theorem tal_nil (m : Nat) : tal m [] = List.replicate m (.int .i64 0) := by
  unfold tal; apply List.ext_getElem <;> simp
theorem tal_get {m : Nat} {L : List Nat} {i : Nat} (h : i < m) : (tal m L)[i]? = some (.int .i64 ((L.count i : Nat) : Int)) := by simp [tal, h]
theorem tal_set {m : Nat} (L : List Nat) {x : Nat} (h : x < m) : (tal m L).set x (.int .i64 ((L.count x : Nat) + 1 : Int)) = tal m (L ++ [x]) := by
  apply List.ext_getElem?
  intro j
  by_cases hj : j < m
  · rw [tal_get hj, List.getElem?_set, List.count_append]
    by_cases e : x = j
    · subst e; simp [tal, h]
    · rw [if_neg e, tal_get hj]; simp [List.count_cons, e]
  · rw [List.getElem?_eq_none (by simp [tal]; omega), List.getElem?_eq_none (by simp [tal]; omega)]
theorem tal_same {m : Nat} {L K : List Nat} (h : ∀ i, L.count i = K.count i) : tal m L = tal m K := by unfold tal; simp only [h]

theorem flat_le {α : Type} (f : α → List Nat) (h : ∀ x, (f x).length ≤ 16) : ∀ l : List α, (l.flatMap f).length ≤ 16 * l.length
  | [] => by simp
  | x :: l => by rw [List.flatMap_cons, List.length_append, List.length_cons]; have := flat_le f h l; have := h x; omega

theorem filterCounts_out (W : World) (s : Nat) (k m : Int) (A1 A2 : Option Addr) (c1 c2 n1 n2 : Nat) (h1 : n1 ≤ c1) (h2 : n2 ≤ c2) (hc1 : c1 ≤ maxLen) (hc2 : c2 ≤ maxLen) (h : ¬ (1 ≤ k ∧ k ≤ 16 ∧ 1 ≤ m ∧ m ≤ 500 ∧ n1 ≤ 40 ∧ n2 ≤ 40)) :
    Calls Try.prog 6 #[.int .u64 (s : Int), .int .i64 k, .int .i64 m, .slice A1 n1 c1, .slice A2 n2 c2] W fun e W' => e = .returned (.bool true) ∧ Below W.heap.size W W' := by
  unfold maxLen at hc1 hc2
  go_enter Try.func6, Try.ntmps6
  go_wp2_with fail
  refine (filter_alive _).mono ?_
  rintro e w1 ⟨rfl, hb⟩
  go_wp2_with fail
  all_goals (go_ret; exact ⟨rfl, hb⟩)

def CntRel (W : World) (f : Nat) (F : Nat → Prop) (s : Nat) (k : Int) (m q : Nat) (tv : Nat → List Value) (L : Nat → List Nat) (N : Nat) (i : Value) (wr : World) : Prop :=
  ∃ (j : Nat) (c : List Nat), j ≤ N ∧ i = .int .i64 j ∧ Flt wr f F s k c ∧ Trk m c (L j) ∧ Blk wr q 3 (tv j) ∧ Below W.heap.size W wr
def CntRel2 (W : World) (f : Nat) (F : Nat → Prop) (s : Nat) (k : Int) (m q : Nat) (tv : Nat → List Value) (L : Nat → List Nat) (N : Nat) (i : Value) (wr : World) : Prop :=
  ∃ (j : Nat) (c : List Nat), j ≤ N ∧ i = .int .i64 j ∧ Flt wr f F s k c ∧ Exc m c (L j) ∧ Blk wr q 3 (tv j) ∧ Below W.heap.size W wr
def TalRel (w5 : World) (m q : Nat) (L K : List Nat) (N : Nat) (i : Value) (wr : World) : Prop :=
  ∃ j : Nat, j ≤ N ∧ i = .int .i64 j ∧ Blk wr q 3 (tal m (L ++ K.take j)) ∧ Chg (· = q) w5 wr
def EndRel (w0 : World) (m : Nat) (i : Value) (wr : World) : Prop := ∃ t : Nat, t ≤ m ∧ i = .int .i64 t ∧ Below w0.heap.size w0 wr

set_option maxHeartbeats 4000000 in
theorem filterCounts_in (W : World) (s : Nat) (hs : s < 2 ^ 64) (k : Int) (m : Nat) (hk1 : 1 ≤ k) (hk2 : k ≤ 16) (hm1 : 1 ≤ m) (hm2 : m ≤ 500) (v1 v2 : Value) (l1 l2 : List Pf) (R1 : Rd pfEn 3 W v1 l1) (R2 : Rd pfEn 3 W v2 l2)
    (o1 : ∀ p ∈ l1, p.1.ok) (o2 : ∀ p ∈ l2, p.1.ok) (hl1 : l1.length ≤ 40) (hl2 : l2.length ≤ 40) :
    Calls Try.prog 6 #[.int .u64 (s : Int), .int .i64 k, .int .i64 (m : Int), v1, v2] W fun e W' => e = .returned (.bool true) ∧ Below W.heap.size W W' := by
  have HR1 := hid fun k x (h : l1[k]? = some x) => R1.get pfE_len (by decide) h
  have HR2 := hid fun k x (h : l2[k]? = some x) => R2.get pfE_len (by decide) h
  have O1 := hid fun (k : Nat) (x : Pf) (h : l1[k]? = some x) => o1 x (List.mem_of_getElem? h)
  have O2 := hid fun (k : Nat) (x : Pf) (h : l2[k]? = some x) => o2 x (List.mem_of_getElem? h)
  obtain ⟨A1, k1, rfl, n1, m1⟩ := R1.form
  obtain ⟨A2, k2, rfl, n2, m2⟩ := R2.form
  unfold maxLen at m1 m2
  obtain ⟨N1, hN1⟩ : ∃ N, l1.length = N := ⟨_, rfl⟩
  obtain ⟨N2, hN2⟩ : ∃ N, l2.length = N := ⟨_, rfl⟩
  have HN1 := hid hN1
  have HN2 := hid hN2
  rw [hN1] at n1 hl1 ⊢
  rw [hN2] at n2 hl2 ⊢
  have cnew := hid fun w => filter_new s hs k m hk1 hk2 hm1 (by omega) w
  have HPL := hid fun p => placesN_lt (s := s) (p := p) (k := k) (m := m) (by omega)
  have HP16 := hid fun p => placesN_le s p k m
  have CP := hid fun p hp w => ref_places s hs p hp k m (by omega) w
  have hmk := fun w => make_at (P := Try.prog) 47 3 (.int .i64 0) 8 Try.underlying47 int_row rfl .i64 .i64 m m rfl (by omega) (by omega) w
  clear R1 R2 o1 o2 hN1 hN2 hs
  have d5 : decide (k < 1) = false := decide_eq_false (by omega)
  have d6 : decide (16 < k) = false := decide_eq_false (by omega)
  have d1 : decide ((m : Int) < 1) = false := decide_eq_false (by omega)
  have d2 : decide ((500 : Int) < (m : Int)) = false := decide_eq_false (by omega)
  have d3 : decide ((40 : Int) < (N1 : Int)) = false := decide_eq_false (by omega)
  have d4 : decide ((40 : Int) < (N2 : Int)) = false := decide_eq_false (by omega)
  go_enter Try.func6, Try.ntmps6
  go_wp2_with fail
  refine (filter_alive _).mono ?_
  rintro e w1 ⟨rfl, hb⟩
  have HB := hid hb
  clear hb
  go_wp2_with fail
  refine (cnew.out _).mono ?_
  rintro _ w2 ⟨f, F, rfl, hX, hF, hb2⟩
  have HF := hid (show ∀ x, F x → W.heap.size ≤ x from fun x hx => Nat.le_trans HB.out.size (hF x hx).1)
  have HqF := hid (show ¬ F w2.heap.size from fun hx => by have := (hF _ hx).2; omega)
  have HX := hid hX
  have HB2 := hid (held_next HB.out hb2)
  clear hX hF hb2 HB cnew
  go_wp2_with fail
  refine (law9_num _ _).mono ?_
  rintro _ w3 ⟨rfl, rfl⟩
  go_wp2_with fail
  have hbm := (Below.refl w2.heap.size w2).alloc (Nat.le_refl _) (.cells (madeCells #[.int .i64 0] m) 3)
  have HX3 := hid (HX.out.below hbm)
  have HB3 := hid (held_next HB2.out hbm)
  have HQ3 := hid (show Blk (w2.alloc (.cells (madeCells #[.int .i64 0] m) 3)) w2.heap.size 3 (tal m []) by rw [tal_nil]; exact Blk.made w2 _ m 3)
  have hqW := HB2.out.size
  generalize w2.alloc (.cells (madeCells #[.int .i64 0] m) 3) = w3 at *
  obtain ⟨q, hq⟩ : ∃ q, w2.heap.size = q := ⟨_, rfl⟩
  rw [hq] at HqF HQ3 hqW ⊢
  clear hbm HX HB2 hmk hq
  go_loopw [15] (fun i wr => CntRel W f F s k m q (fun j => tal m ((l1.take j).flatMap (fun p => placesN s p k m))) (fun j => (l1.take j).flatMap (fun p => placesN s p k m)) N1 i wr) (fun i _ => N1 - (intOf i).toNat)
  case atStart => exact ⟨0, _, Nat.zero_le _, rfl, HX3.out, Trk.zero m, HQ3.out, HB3.out⟩
  case round =>
    clear HX3 HQ3 HB3
    obtain ⟨j, c, hj, rfl, hX, hT, hQ, hB⟩ := hrel
    have hT : Trk m c ((l1.take j).flatMap (fun p => placesN s p k m)) := hT
    have hQ : Blk wr q 3 (tal m ((l1.take j).flatMap (fun p => placesN s p k m))) := hQ
    have HX := hid hX
    have HT := hid hT
    have HQ := hid hQ
    have HB := hid hB
    clear hX hT hB hQ
    by_cases h1 : j < N1
    · obtain ⟨x, hx⟩ : ∃ x, l1[j]? = some x := ⟨_, List.getElem?_eq_getElem (by rw [HN1.out]; exact h1)⟩
      obtain ⟨ba, oa, ca, hv, _, _, la, sa⟩ := HR1.out j x hx
      injection hv with hA hxx hc
      subst hA hc
      have HS := hid (show ∀ w, Below W.heap.size W w → w.cell? ⟨ba, oa + j * 3, none⟩ = some (.int .u64 (x.1.1 : Int)) ∧ w.cell? ⟨ba, oa + j * 3 + 1, none⟩ = some (.int .u64 (x.1.2 : Int)) ∧ w.cell? ⟨ba, oa + j * 3 + 2, none⟩ = some (.int .i64 x.2) from fun w h =>
        ⟨(h.cell (p := ⟨ba, oa + j * 3, none⟩) la).trans (sa 0 _ rfl), (h.cell (p := ⟨ba, oa + j * 3 + 1, none⟩) la).trans (sa 1 _ rfl), (h.cell (p := ⟨ba, oa + j * 3 + 2, none⟩) la).trans (sa 2 _ rfl)⟩)
      obtain ⟨y0, y1, y2⟩ := HS.out _ HB.out
      have HCT := hid (fun i => count_flat_take (fun p => placesN s p k m) hx i)
      have ca := hid (cnt_add HX.out HT.out HQ.out HqF.out HB.out HF.out x (O1.out j x hx) (L' := (l1.take (j + 1)).flatMap (fun p => placesN s p k m)) HCT.out)
      have cp := hid (CP.out x (O1.out j x hx))
      have hKlt := hid (HPL.out x)
      have hK16 := HP16.out x
      have hL0 : ((l1.take j).flatMap (fun p => placesN s p k m)).length ≤ 640 := by
        have h1 := flat_le (fun p => placesN s p k m) HP16.out (l1.take j)
        have h2 : (l1.take j).length ≤ j := List.length_take_le _ _
        omega
      generalize placesN s x k m = K at cp HCT hKlt hK16
      generalize (l1.take j).flatMap (fun p => placesN s p k m) = L0 at HT HQ HCT ca hL0
      obtain ⟨⟨x1, x2⟩, x3⟩ := x
      clear sa hxx hx HX HT HB HQ
      go_wp2_with fail
      refine ca.out.mono ?_
      rintro _ w4 ⟨rfl, c4, hX4, hT4, hQ4, hB4⟩
      have HX4 := hid hX4
      have HT4 := hid hT4
      have HQ4 := hid hQ4
      have HB4 := hid hB4
      clear hX4 hT4 hQ4 hB4 ca y0 y1 y2
      obtain ⟨y0, y1, y2⟩ := HS.out _ HB4.out
      go_wp2_with fail
      refine (cp.out _).mono ?_
      rintro _ w5 ⟨v, rfl, hO, hb5⟩
      have HRd := hid (Rd.of_owns (en := nEn) (l := K) (by rw [nEn_flat]; exact hO) nEn_len)
      have HV := hid (fun z (hz : v.ownBlock = some z) => (Owns.base_le hO z hz).1)
      obtain ⟨A, cap, rfl, hnc, hcm, _⟩ := Owns.form hO
      unfold maxLen at hcm
      have HX5 := hid (HX4.out.below hb5)
      have HQ5 := hid (HQ4.out.below' hb5)
      have HB5 := hid (held_next HB4.out hb5)
      have hq4 := HQ4.out.lt
      have hs5 := hb5.size
      clear hO hb5 cp y0 y1 y2 HX4 HQ4 HB4
      obtain ⟨M, hM⟩ : ∃ M, K.length = M := ⟨_, rfl⟩
      have HM := hid hM
      rw [hM] at hnc hK16 ⊢
      clear hM
      go_wp2_with fail
      go_loopw [17] (fun i wr => TalRel w5 m q L0 K M i wr) (fun i _ => M - (intOf i).toNat)
      case atStart => exact ⟨0, Nat.zero_le _, rfl, by rw [List.take_zero, List.append_nil]; exact HQ5.out, Chg.refl _ _⟩
      case round =>
        obtain ⟨t, ht, rfl, hQr, hC⟩ := hrel
        have HQr := hid hQr
        have HC := hid hC
        by_cases htM : t < M
        · obtain ⟨z, hz⟩ : ∃ z, K[t]? = some z := ⟨_, List.getElem?_eq_getElem (by rw [HM.out]; exact htM)⟩
          obtain ⟨bb, ob, cb, hv, _, _, lb, sb⟩ := (HRd.out.chg nEn_len hC (fun z hz e => by have := HV.out z hz; omega)).get nEn_len (by decide) hz
          injection hv with hA hzz hc
          subst hA hc
          have u0 : wr.cell? ⟨bb, ob + t, none⟩ = some (.int .i64 (z : Int)) := by simpa using sb 0 _ rfl
          have hzm := hKlt.out z (List.mem_of_getElem? hz)
          have u1 := hQr.cellv (tal_get (L := L0 ++ K.take t) hzm)
          have uf := hQr.frozen z
          have hset := tal_set (m := m) (L0 ++ K.take t) hzm
          have htk : L0 ++ K.take (t + 1) = L0 ++ K.take t ++ [z] := by
            obtain ⟨hk, rfl⟩ := List.getElem?_eq_some_iff.1 hz
            rw [List.take_succ_eq_append_getElem hk, List.append_assoc]
          have HTK := hid htk
          have HSET := hid hset
          have hcl : (L0 ++ K.take t).count z ≤ (L0 ++ K.take t).length := List.count_le_length
          obtain ⟨y, hy⟩ : ∃ y, (L0 ++ K.take t).count z = y := ⟨_, rfl⟩
          rw [hy] at u1 hcl
          have HY := hid hy
          have hy656 : y ≤ 656 := by
            rw [List.length_append, List.length_take] at hcl
            omega
          clear sb hzz hz hQr hC hset htk hcl hy
          go_wp2_with fail
          go_roundw
          case rel =>
            refine ⟨t + 1, by omega, by go_num, ?_, (HC.out).setCell (fun _ => rfl) _⟩
            rw [HTK.out, ← HSET.out, HY.out]
            exact HQr.out.set z _
          case measure => simp [intOf]; omega
        · have htt : K.take t = K := List.take_of_length_le (by rw [HM.out]; omega)
          have hQK := hQr
          rw [htt] at hQK
          have HX6 := hid (HX5.out.chg hC fun x hx e => HqF.out (e ▸ hx))
          have HB6 := hid (HB5.out.trans (hC.below HB5.out.size fun i hi e => by omega))
          have HQ6 := hid (show Blk wr q 3 (tal m ((l1.take (j + 1)).flatMap (fun p => placesN s p k m))) by
            rw [tal_same (K := L0 ++ K) (fun i => by rw [HCT.out i, List.count_append])]; exact hQK)
          clear hQK htt hQr hC
          go_wp2_with fail
          go_roundw
          case rel => exact ⟨j + 1, c4, by omega, by go_num, HX6.out, HT4.out, HQ6.out, HB6.out⟩
          case measure => simp [intOf]; omega
    · have htk : l1.take j = l1 := List.take_of_length_le (by rw [HN1.out]; omega)
      rw [htk] at HT HQ
      clear htk
      obtain ⟨L1, hL1⟩ : ∃ L, l1.flatMap (fun p => placesN s p k m) = L := ⟨_, rfl⟩
      rw [hL1] at HT HQ
      clear hL1
      go_wp2_with fail
      go_loopw [18] (fun i wr => CntRel W f F s k m q (fun _ => tal m L1) (fun j => L1 ++ (l2.take j).flatMap (fun p => placesN s p k m)) N2 i wr) (fun i _ => N2 - (intOf i).toNat)
      case atStart => exact ⟨0, c, Nat.zero_le _, rfl, HX.out, by simpa using HT.out, HQ.out, HB.out⟩
      case round =>
        clear HX HQ HB HT
        obtain ⟨j, c, hj, rfl, hX, hT, hQ, hB⟩ := hrel
        have hT : Trk m c (L1 ++ (l2.take j).flatMap (fun p => placesN s p k m)) := hT
        have hQ : Blk wr q 3 (tal m L1) := hQ
        have HX := hid hX
        have HT := hid hT
        have HQ := hid hQ
        have HB := hid hB
        clear hX hT hB hQ
        by_cases h2 : j < N2
        · obtain ⟨x, hx⟩ : ∃ x, l2[j]? = some x := ⟨_, List.getElem?_eq_getElem (by rw [HN2.out]; exact h2)⟩
          obtain ⟨ba, oa, ca, hv, _, _, la, sa⟩ := HR2.out j x hx
          injection hv with hA hxx hc
          subst hA hc
          have y0 : wr.cell? ⟨ba, oa + j * 3, none⟩ = some (.int .u64 (x.1.1 : Int)) := (HB.out.cell (p := ⟨ba, oa + j * 3, none⟩) la).trans (sa 0 _ rfl)
          have y1 : wr.cell? ⟨ba, oa + j * 3 + 1, none⟩ = some (.int .u64 (x.1.2 : Int)) := (HB.out.cell (p := ⟨ba, oa + j * 3 + 1, none⟩) la).trans (sa 1 _ rfl)
          have y2 : wr.cell? ⟨ba, oa + j * 3 + 2, none⟩ = some (.int .i64 x.2) := (HB.out.cell (p := ⟨ba, oa + j * 3 + 2, none⟩) la).trans (sa 2 _ rfl)
          have ca := hid (cnt_add HX.out HT.out HQ.out HqF.out HB.out HF.out x (O2.out j x hx) (L' := L1 ++ (l2.take (j + 1)).flatMap (fun p => placesN s p k m)) (fun i => by
            rw [List.count_append, List.count_append, count_flat_take _ hx]; omega))
          obtain ⟨⟨x1, x2⟩, x3⟩ := x
          clear sa hxx hx HX HT HB HQ
          go_wp2_with fail
          refine ca.out.mono ?_
          rintro _ w4 ⟨rfl, c4, hX4, hT4, hQ4, hB4⟩
          have HX4 := hid hX4
          have HT4 := hid hT4
          have HQ4 := hid hQ4
          have HB4 := hid hB4
          clear hX4 hT4 hQ4 hB4 ca y0 y1 y2
          go_wp2_with fail
          go_roundw
          case rel => exact ⟨j + 1, c4, by omega, by go_num, HX4.out, HT4.out, HQ4.out, HB4.out⟩
          case measure => simp [intOf]; omega
        · have htk : l2.take j = l2 := List.take_of_length_le (by rw [HN2.out]; omega)
          have hT' := HT.out
          rw [htk] at hT'
          have cf := hid (filter_full HX.out)
          obtain ⟨y, hy⟩ : ∃ y, fulls c = y := ⟨_, rfl⟩
          rw [hy] at cf
          by_cases hy0 : 0 < y
          · clear hT' htk hy
            have d7 : decide ((0 : Int) < (y : Int)) = true := decide_eq_true (by omega)
            go_wp2_with fail
            refine cf.out.mono ?_
            rintro _ w5 ⟨rfl, rfl⟩
            go_wp2_with fail
            go_ret
            exact ⟨rfl, HB.out⟩
          obtain rfl : y = 0 := by omega
          have HE := hid (hT'.exc hy)
          clear hT' hy htk HT
          go_wp2_with fail
          refine cf.out.mono ?_
          rintro _ w5 ⟨rfl, rfl⟩
          clear cf
          go_wp2_with fail
          go_loopw [19] (fun i wr => CntRel2 W f F s k m q (fun _ => tal m L1) (fun j => L1 ++ (l2.drop j).flatMap (fun p => placesN s p k m)) N2 i wr) (fun i _ => N2 - (intOf i).toNat)
          case atStart => exact ⟨0, c, Nat.zero_le _, rfl, HX.out, HE.out, HQ.out, HB.out⟩
          case round =>
            clear HX HQ HB HE
            obtain ⟨j, c, hj, rfl, hX, hT, hQ, hB⟩ := hrel
            have hT : Exc m c (L1 ++ (l2.drop j).flatMap (fun p => placesN s p k m)) := hT
            have hQ : Blk wr q 3 (tal m L1) := hQ
            have HX := hid hX
            have HT := hid hT
            have HQ := hid hQ
            have HB := hid hB
            clear hX hT hB hQ
            by_cases h2 : j < N2
            · obtain ⟨x, hx⟩ : ∃ x, l2[j]? = some x := ⟨_, List.getElem?_eq_getElem (by rw [HN2.out]; exact h2)⟩
              obtain ⟨ba, oa, ca, hv, _, _, la, sa⟩ := HR2.out j x hx
              injection hv with hA hxx hc
              subst hA hc
              have y0 : wr.cell? ⟨ba, oa + j * 3, none⟩ = some (.int .u64 (x.1.1 : Int)) := (HB.out.cell (p := ⟨ba, oa + j * 3, none⟩) la).trans (sa 0 _ rfl)
              have y1 : wr.cell? ⟨ba, oa + j * 3 + 1, none⟩ = some (.int .u64 (x.1.2 : Int)) := (HB.out.cell (p := ⟨ba, oa + j * 3 + 1, none⟩) la).trans (sa 1 _ rfl)
              have y2 : wr.cell? ⟨ba, oa + j * 3 + 2, none⟩ = some (.int .i64 x.2) := (HB.out.cell (p := ⟨ba, oa + j * 3 + 2, none⟩) la).trans (sa 2 _ rfl)
              have ca := hid (cnt_rem HX.out HT.out HQ.out HqF.out HB.out HF.out x (O2.out j x hx) (L' := L1 ++ (l2.drop (j + 1)).flatMap (fun p => placesN s p k m)) (fun i => by
                rw [List.count_append, List.count_append, count_flat_drop _ hx]; omega))
              obtain ⟨⟨x1, x2⟩, x3⟩ := x
              clear sa hxx hx HX HT HB HQ
              go_wp2_with fail
              refine ca.out.mono ?_
              rintro _ w4 ⟨rfl, c4, hX4, hT4, hQ4, hB4⟩
              have HX4 := hid hX4
              have HT4 := hid hT4
              have HQ4 := hid hQ4
              have HB4 := hid hB4
              clear hX4 hT4 hQ4 hB4 ca y0 y1 y2
              go_wp2_with fail
              go_roundw
              case rel => exact ⟨j + 1, c4, by omega, by go_num, HX4.out, HT4.out, HQ4.out, HB4.out⟩
              case measure => simp [intOf]; omega
            · have hT' := HT.out
              rw [List.drop_eq_nil_of_le (by rw [HN2.out]; omega)] at hT'
              have HT' := hid (show Exc m c L1 by simpa using hT')
              clear hT' HT
              go_wp2_with fail
              go_loopw [20] (fun i w' => EndRel wr m i w') (fun i _ => m - (intOf i).toNat)
              case atStart => exact ⟨0, Nat.zero_le _, rfl, Below.refl _ _⟩
              case round =>
                rename_i wr2
                obtain ⟨t, ht, rfl, hbr⟩ := hrel
                have HX' := hid (HX.out.below hbr)
                have HQ' := hid (HQ.out.below' hbr)
                have HBR := hid hbr
                clear hbr
                by_cases htm : t < m
                · have hcnt := HT'.out.cnt t htm
                  have u0 := HQ'.out.cellv (tal_get (L := L1) htm)
                  obtain ⟨z, hz⟩ : ∃ z, L1.count t = z := ⟨_, rfl⟩
                  rw [hz] at u0 hcnt
                  have a1 := hid fun n' => filter_counter_q HX'.out (t : Int) (z : Int) (by rw [at0_nat, hcnt.1]) n'
                  have a2 := hid fun n' => filter_on_q HX'.out (t : Int) (decide ((0 : Int) < (z : Int))) (by rw [on0_nat, onB_get, hcnt.1]; congr 1; simp) n'
                  clear hcnt hz
                  go_wp2_with fail
                  go_quiet ((first | (go_at_call 20; exact Calls.quiet_of_same (a1.out _)) | (go_at_call 21; exact Calls.quiet_of_same (a2.out _))))
                  go_wp2_with fail
                  go_roundw
                  case rel => exact ⟨t + 1, by omega, by go_num, HBR.out.drewN _⟩
                  case measure => simp [intOf]; omega
                · go_wp2_with fail
                  go_ret
                  exact ⟨rfl, held_next HB.out HBR.out⟩

theorem filterCounts_walk (W : World) (s : Int) (ws : (Lit.int .u64 s).wf = true) (k : Int) (_ : (Lit.int .i64 k).wf = true) (m : Int) (_ : (Lit.int .i64 m).wf = true) (v1 : Value) (l1 : List Pf) (R1 : Rd pfEn 3 W v1 l1) (o1 : ∀ p ∈ l1, Pf.fit p) (v2 : Value) (l2 : List Pf) (R2 : Rd pfEn 3 W v2 l2) (o2 : ∀ p ∈ l2, Pf.fit p) :
    Calls Try.prog 6 #[.int .u64 s, .int .i64 k, .int .i64 m, v1, v2] W fun e W' => e = .returned (.bool true) ∧ Below W.heap.size W W' := by
  have hs := wf_u64 ws
  obtain ⟨s, rfl⟩ := Int.eq_ofNat_of_zero_le hs.1
  by_cases h : 1 ≤ k ∧ k ≤ 16 ∧ 1 ≤ m ∧ m ≤ 500 ∧ l1.length ≤ 40 ∧ l2.length ≤ 40
  · obtain ⟨m, rfl⟩ := Int.eq_ofNat_of_zero_le (show 0 ≤ m by omega)
    exact filterCounts_in W s (by omega) k m h.1 h.2.1 (by omega) (by omega) v1 v2 l1 l2 R1 R2 (fun p hp => (o1 p hp).1) (fun p hp => (o2 p hp).1) h.2.2.2.2.1 h.2.2.2.2.2
  · obtain ⟨A1, c1, rfl, n1, m1⟩ := R1.form
    obtain ⟨A2, c2, rfl, n2, m2⟩ := R2.form
    exact filterCounts_out W s k m A1 A2 c1 c2 _ _ n1 n2 m1 m2 h

end Go.Proofs.Ytpjjijhojcfmnaa
