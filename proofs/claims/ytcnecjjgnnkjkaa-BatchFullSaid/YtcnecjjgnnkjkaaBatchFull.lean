/-
  Law 25, BatchFull. No condition.
-/
import Derived.Test.YtcnecjjgnnkjkaaBatchFullM
import Derived.Test.YtcnecjjgnnkjkaaOrd
namespace Go.Proofs.Ytcnecjjgnnkjkaa
open Go.RowKit
set_option linter.unusedVariables false
set_option linter.unusedSimpArgs false
set_option maxRecDepth 100000

theorem wf_nat60 {i : Nat} (h : i ≤ 60) : (Lit.int .i64 (i : Int)).wf = true := by
  simp [Lit.wf, IntKind.min, IntKind.max, IntKind.signed, IntKind.bits]; omega
/-- Behind i rounds: so many are there. -/
def BfRel (W : World) (m : Lim) (b a c n : Nat) (tv iv : Value) (wr : World) : Prop :=
  ∃ (i j : Nat) (F : Nat → Prop), i ≤ n ∧ j = min i (min a c) ∧ tv = .int .i64 (j : Int) ∧ iv = .int .i64 (i : Int) ∧ BookAt wr b F m (fullR j) ∧ (∀ z, F z → W.heap.size ≤ z ∧ z < wr.heap.size) ∧ Below W.heap.size W wr

set_option maxHeartbeats 4000000 in
theorem batchFull_in (W : World) (a c n : Nat) (ha1 : 1 ≤ a) (ha : a ≤ 40) (hc1 : 1 ≤ c) (hc : c ≤ 20) (hn : n ≤ 60) :
    Calls Try.prog 9 #[.int .i64 (a : Int), .int .i64 (c : Int), .int .i64 (n : Int)] W fun e W' => e = .returned (.bool true) ∧ Below W.heap.size W W' := by
  have cA := hid (book_alive W)
  have cN := hid (fun w => book_new w 32 (a : Int) (c : Int))
  rw [show limOf 32 (a : Int) (c : Int) = limN a c from rfl] at cN
  have cn := hid law25_num
  have cR := hid (fun (w' : World) (b : Nat) (F : Nat → Prop) (m : Lim) (R : List Rt) (H : BookAt w' b F m R) => book_routes H)
  have cD := hid (fun (w' : World) (b : Nat) (F : Nat → Prop) (m : Lim) (R : List Rt) (H : BookAt w' b F m R) (v : Value) (cs : List Cm) (h1 : Rd cmEn 10 w' v cs) (h2 : ∀ c ∈ cs, c.ok) (h3 : cs.length ≤ 50000) (h4 : ∀ z, v.ownBlock = some z → ¬ F z ∧ z < w'.heap.size) => book_do H v cs h1 h2 h3 h4)
  have SE := hid (fun (j i : Nat) (hi : i ≤ 60) (hj : j = min i (min a c)) => full_step ha hc hi (show j ≤ i by omega) hj)
  have HN := hid hn
  have HA := hid ha
  have HC := hid hc
  have HA1 := hid ha1
  have HC1 := hid hc1
  have e0 : decide ((a : Int) < 1) = false := decide_eq_false (by omega)
  have e1 : decide ((40 : Int) < (a : Int)) = false := decide_eq_false (by omega)
  have e2 : decide ((c : Int) < 1) = false := decide_eq_false (by omega)
  have e3 : decide ((20 : Int) < (c : Int)) = false := decide_eq_false (by omega)
  have e4 : decide ((n : Int) < 0) = false := decide_eq_false (by omega)
  have e5 : decide ((60 : Int) < (n : Int)) = false := decide_eq_false (by omega)
  have E0 : ([] : List Rt) = fullR 0 := rfl
  have HFL := hid (fun (j : Nat) (hj : j ≤ a) (hjb : j ≤ c) (h0 : 0 < j) => full_last ha hc hj hjb h0)
  generalize limN a c = m at *
  clear ha hc ha1 hc1 hn
  go_enter Try.func9, Try.ntmps9
  go_wp2_with fail
  refine cA.out.mono ?_
  rintro _ w1 ⟨rfl, hb1⟩
  have HB1 := hid hb1
  clear hb1 cA
  go_wp2_with fail
  refine (cN.out _).mono ?_
  rintro _ w2 ⟨b, rfl, hB, hb2⟩
  have HB2 := hid (held_next HB1.out hb2)
  obtain ⟨F2, h2a, hK2⟩ : ∃ F2 : Nat → Prop, (∀ z, F2 z → W.heap.size ≤ z ∧ z < w2.heap.size) ∧ BookAt w2 b F2 m (fullR 0) :=
    ⟨fun z => W.heap.size ≤ z ∧ z < w2.heap.size, fun z hz => hz, (E0 ▸ hB).mono (fun z hz h => ⟨by have := HB1.out.size; omega, hz⟩)⟩
  have HF2 := hid h2a
  have HK2 := hid hK2
  clear hB hb2 cN h2a hK2 HB1 E0
  go_wp2_with fail
  go_loopw [9, 10] (fun tv iv wr => BfRel W m b a c n tv iv wr) (fun _ iv _ => n - (intOf iv).toNat)
  case atStart => exact ⟨0, 0, F2, Nat.zero_le _, by omega, rfl, rfl, HK2.out, HF2.out, HB2.out⟩
  case round =>
    obtain ⟨i, j, F, hi, hj, rfl, rfl, hK, hF, hB⟩ := hrel
    have HJ := hid hj
    have HK := hid hK
    have HF := hid hF
    have HB := hid hB
    clear hj hK hF hB HK2 HF2 HB2
    by_cases hin : i < n
    · have HIN := hid hin
      go_wp2_with fail
      have hw : IntKind.u64.wrap (IntKind.u64.wrap (i : Int) * 1099511627776) = ((i * 2 ^ 40 : Nat) : Int) := by
        have hn := HN.out
        rw [IntKind.wrap_u64, IntKind.wrap_u64]; omega
      rw [hw]
      have hbk : Below wr.heap.size wr ((wr.alloc (.cells #[.int .u64 ((i * 2 ^ 40 : Nat) : Int), .int .u64 0, .int .i64 24] 51)).alloc (.cells #[.int .i64 1, .int .i64 (i : Int), .int .i64 0, .int .u64 ((i * 2 ^ 40 : Nat) : Int), .int .u64 0, .int .i64 24, .int .u64 0, .int .u64 0, .int .u64 0, .slice none 0 0] 53)) := ((Below.refl _ _).alloc (Nat.le_refl _) _).alloc (by simp) _
      have hblk : Blk ((wr.alloc (.cells #[.int .u64 ((i * 2 ^ 40 : Nat) : Int), .int .u64 0, .int .i64 24] 51)).alloc (.cells #[.int .i64 1, .int .i64 (i : Int), .int .i64 0, .int .u64 ((i * 2 ^ 40 : Nat) : Int), .int .u64 0, .int .i64 24, .int .u64 0, .int .u64 0, .int .u64 0, .slice none 0 0] 53)) (wr.heap.size + 1) 53 ([fullC i].flatMap cmEn) := Blk.new_at _ (cmEn (fullC i)).toArray _ _ (by simp)
      have hsz : ((wr.alloc (.cells #[.int .u64 ((i * 2 ^ 40 : Nat) : Int), .int .u64 0, .int .i64 24] 51)).alloc (.cells #[.int .i64 1, .int .i64 (i : Int), .int .i64 0, .int .u64 ((i * 2 ^ 40 : Nat) : Int), .int .u64 0, .int .i64 24, .int .u64 0, .int .u64 0, .int .u64 0, .slice none 0 0] 53)).heap.size = wr.heap.size + 2 := by simp
      generalize (wr.alloc (.cells #[.int .u64 ((i * 2 ^ 40 : Nat) : Int), .int .u64 0, .int .i64 24] 51)).alloc (.cells #[.int .i64 1, .int .i64 (i : Int), .int .i64 0, .int .u64 ((i * 2 ^ 40 : Nat) : Int), .int .u64 0, .int .i64 24, .int .u64 0, .int .u64 0, .int .u64 0, .slice none 0 0] 53) = w3 at *
      have HB3 := hid (held_next HB.out hbk)
      have HS := hid hsz
      have hK3 := HK.out.below hbk
      have hsb := HB.out.size
      refine (cD.out _ _ _ _ _ hK3 _ [fullC i] (Rd.of_blk (en := cmEn) (l := [fullC i]) hblk cmEn_len (by unfold maxLen; simp)) (by
        intro c hc
        rw [List.mem_singleton.1 hc]
        have h60 := HN.out
        exact cmOf_ok (by decide) (kpf_right (i := i) (by omega)).2 (show (Lit.int .i64 24).wf = true by decide) (wf_nat60 (by omega))) (by simp) (fun z hz => ?_)).mono ?_
      · injection hz with hz
        have h1 : z = wr.heap.size + 1 := hz.symm
        subst h1
        exact ⟨fun h => by have := (HF.out _ h).2; omega, by omega⟩
      rintro _ w4 ⟨he4, ⟨F4, hF4, hK4⟩, hC4⟩
      have hst := SE.out j i (by have := HN.out; omega) HJ.out
      rw [hst] at he4 hK4
      obtain ⟨F5, h5, hK5⟩ : ∃ F5 : Nat → Prop, (∀ z, F5 z → W.heap.size ≤ z ∧ z < w4.heap.size) ∧ BookAt w4 b F5 m (if a ≤ j then ((0 : Int), (5 : Int), fullR j) else if c ≤ j then (0, 6, fullR j) else (-1, 0, fullR (j + 1))).2.2 :=
        ⟨fun z => W.heap.size ≤ z ∧ z < w4.heap.size, fun z hz => hz, hK4.mono (fun z hz h => ⟨(hF4 z h).elim (fun k => (HF.out z k).1) (fun k => by omega), hz⟩)⟩
      have HB4 := hid (HB3.out.trans (hC4.below HB3.out.size (fun z hz h => by have := HF.out z h; omega)))
      have HF5 := hid h5
      have HK5 := hid hK5
      clear hbk hblk hsz hK3 hC4 hK4 hF4 h5 hK5 HB3 HS hw hst hsb
      have hjn : j ≤ i := by have := HJ.out; omega
      have hn60 := HN.out
      have hw1 : IntKind.i64.wrap ((i : Int) + 1) = (i : Int) + 1 := by rw [IntKind.wrap_i64]; omega
      have hw2 : IntKind.i64.wrap ((j : Int) + 1) = (j : Int) + 1 := by rw [IntKind.wrap_i64]; omega
      by_cases h1 : a ≤ j
      · rw [if_pos h1] at he4
        subst he4
        have HK6 := hid (by have := HK5.out; rw [if_pos h1] at this; exact this)
        have HH1 := hid h1
        have c1 : (a : Int) ≤ (j : Int) := by omega
        clear h1 HK5
        go_wp2_with fail
        refine (cn.out _ _).mono ?_
        rintro _ w5 ⟨rfl, rfl⟩
        go_wp2_with fail
        go_roundw
        case rel => exact ⟨i + 1, j, F5, by omega, by have := HJ.out; have := HH1.out; omega, rfl, by go_num, HK6.out, HF5.out, HB4.out⟩
        case measure => simp [intOf]; omega
      · have c1 : ¬ (a : Int) ≤ (j : Int) := by omega
        by_cases h2 : c ≤ j
        · rw [if_neg h1, if_pos h2] at he4
          subst he4
          have HK6 := hid (by have := HK5.out; rw [if_neg h1, if_pos h2] at this; exact this)
          have HH2 := hid h2
          have c2 : (c : Int) ≤ (j : Int) := by omega
          clear h1 h2 HK5
          go_wp2_with fail
          refine (cn.out _ _).mono ?_
          rintro _ w5 ⟨rfl, rfl⟩
          go_wp2_with fail
          go_roundw
          case rel => exact ⟨i + 1, j, F5, by omega, by have := HJ.out; have := HH2.out; omega, rfl, by go_num, HK6.out, HF5.out, HB4.out⟩
          case measure => simp [intOf]; omega
        · rw [if_neg h1, if_neg h2] at he4
          subst he4
          have HK6 := hid (by have := HK5.out; rw [if_neg h1, if_neg h2] at this; exact this)
          have HH1 := hid h1
          have HH2 := hid h2
          have c2 : ¬ (c : Int) ≤ (j : Int) := by omega
          clear h1 h2 HK5
          go_wp2_with fail
          refine (cn.out _ _).mono ?_
          rintro _ w5 ⟨rfl, rfl⟩
          go_wp2_with fail
          go_roundw
          case rel => exact ⟨i + 1, j + 1, F5, by omega, by have := HJ.out; have := HH1.out; have := HH2.out; omega, by go_num, by go_num, HK6.out, HF5.out, HB4.out⟩
          case measure => simp [intOf]; omega
    · have HIN := hid hin
      have hjn : j ≤ 20 ∧ j ≤ a ∧ j ≤ c := by have := HJ.out; have := HC.out; omega
      by_cases h0 : j = 0
      · subst h0
        go_wp2_with fail
        go_ret
        exact ⟨rfl, HB.out⟩
      · have h0i : ((j : Int) == 0) = false := by rw [beq_eq_false_iff_ne]; omega
        have HL := hid (HFL.out j hjn.2.1 hjn.2.2 (by omega))
        have HFI := hid (full_find (j := j) (by omega))
        have HLL := hid (rowK_len 40 24 ((seqI j).set 0 999))
        have HJL := hid (show ((seqI j).set 0 999).length = j by rw [List.length_set, seqI_len])
        generalize rowK 40 24 ((seqI j).set 0 999) = RZ at *
        clear HFL
        go_wp2_with fail
        have hbk : Below wr.heap.size wr (wr.alloc (.cells #[.int .i64 1, .int .i64 999, .int .i64 0, .int .u64 0, .int .u64 0, .int .i64 24, .int .u64 0, .int .u64 0, .int .u64 0, .slice none 0 0] 53)) := (Below.refl _ _).alloc (Nat.le_refl _) _
        have hblk : Blk (wr.alloc (.cells #[.int .i64 1, .int .i64 999, .int .i64 0, .int .u64 0, .int .u64 0, .int .i64 24, .int .u64 0, .int .u64 0, .int .u64 0, .slice none 0 0] 53)) wr.heap.size 53 ([cmOf 1 (kpf 40 24 0) 999].flatMap cmEn) := Blk.new wr [.int .i64 1, .int .i64 999, .int .i64 0, .int .u64 0, .int .u64 0, .int .i64 24, .int .u64 0, .int .u64 0, .int .u64 0, .slice none 0 0] 53
        have hsz : (wr.alloc (.cells #[.int .i64 1, .int .i64 999, .int .i64 0, .int .u64 0, .int .u64 0, .int .i64 24, .int .u64 0, .int .u64 0, .int .u64 0, .slice none 0 0] 53)).heap.size = wr.heap.size + 1 := by simp
        generalize wr.alloc (.cells #[.int .i64 1, .int .i64 999, .int .i64 0, .int .u64 0, .int .u64 0, .int .i64 24, .int .u64 0, .int .u64 0, .int .u64 0, .slice none 0 0] 53) = w3 at *
        have HB3 := hid (held_next HB.out hbk)
        have hK3 := HK.out.below hbk
        have hsb := HB.out.size
        refine (cD.out _ _ _ _ _ hK3 _ [cmOf 1 (kpf 40 24 0) 999] (Rd.of_blk (en := cmEn) (l := [cmOf 1 (kpf 40 24 0) 999]) hblk cmEn_len (by unfold maxLen; simp)) (by
          intro c hc
          rw [List.mem_singleton.1 hc]
          exact cmOf_ok (by decide) (kpf_right (i := 0) (by omega)).2 (show (Lit.int .i64 24).wf = true by decide) (by decide)) (by simp) (fun z hz => ?_)).mono ?_
        · injection hz with hz
          have h1 : z = wr.heap.size := hz.symm
          subst h1
          exact ⟨fun h => by have := (HF.out _ h).2; omega, by omega⟩
        rintro _ w4 ⟨he4, ⟨F4, hF4, hK4⟩, hC4⟩
        rw [HL.out] at he4 hK4
        subst he4
        have HK4 := hid hK4
        have HB4 := hid (HB3.out.trans (hC4.below HB3.out.size (fun z hz h => by have := HF.out z h; omega)))
        clear hbk hblk hsz hK3 hC4 hK4 hF4 HB3 hsb cD
        go_wp2_with fail
        refine (cn.out _ _).mono ?_
        rintro _ w5 ⟨rfl, rfl⟩
        go_wp2_with fail
        refine (cR.out _ _ _ _ _ HK4.out).mono ?_
        rintro _ w6 ⟨v6, rfl, hO6, hb6⟩
        have HB6 := hid (held_next HB4.out hb6)
        have HK6 := hid (HK4.out.below hb6)
        have hlj := HLL.out
        rw [HJL.out] at hlj
        obtain ⟨A6, c6, rfl⟩ := hO6.form
        rw [hlj]
        clear hO6 hb6 hlj
        go_wp2_with fail
        refine (cR.out _ _ _ _ _ HK6.out).mono ?_
        rintro _ w7 ⟨v7, rfl, hO7, hb7⟩
        have HB7 := hid (held_next HB6.out hb7)
        have cF := hid (ref_find w7 v7 RZ hO7.rd (kpf 40 24 0))
        rw [HFI.out] at cF
        obtain ⟨A7, c7, rfl⟩ := hO7.form
        generalize RZ.length = n7 at *
        clear hO7 hb7 cR
        go_wp2_with fail
        refine cF.out.mono ?_
        rintro _ w8 ⟨rfl, hb8⟩
        have HB8 := hid (held_next HB7.out hb8)
        clear hb8 cF
        go_wp2_with fail
        go_ret
        exact ⟨rfl, HB8.out⟩
end Go.Proofs.Ytcnecjjgnnkjkaa
