/-
  The contract of cover.Set: what a level holds of any routes. No condition but that there are no more than a thousand routes, and that words are words.
-/
import Derived.Test.YtcchjljdhjkmeaaCoverM
import Derived.Test.YtcchjljdhjkmeaaCompactP2
import Derived.Test.YtcchjljdhjkmeaaTrieAll
import Derived.Test.YtcchjljdhjkmeaaDeltaOf
namespace Go.Proofs.Ytcchjljdhjkmeaa
open Go.RowKit
set_option linter.unusedVariables false
set_option linter.unusedSimpArgs false
set_option maxRecDepth 100000

theorem pfsV_take (l : List Pf) (i : Nat) (Z : List Value) (h : l.length = i) : (pfsV l ++ Z).take (i * 3) = pfsV l := by
  rw [List.take_append_of_le_length (by rw [pfsV_len]; omega), List.take_of_length_le (by rw [pfsV_len]; omega)]
/-- Behind slices.Compact of a row that a call owns. -/
def PcPost (w : World) (v : Value) (K : List Pf) (e : Ending) (w' : World) : Prop :=
  ∃ v', e = .returned v' ∧ Rd pfEn 3 w' v' K ∧ Chg (fun b => v.ownBlock = some b) w w' ∧ ∀ b, v'.ownBlock = some b → v.ownBlock = some b
theorem pf_compact_own {w : World} {base : Nat} {v : Value} {U : List Pf} (hO : Owns w base 37 3 v U.length (pfsV U)) (hl : U.length ≤ 1000000000) :
    Calls Try.prog 49 #[v] w (PcPost w v (compL U)) := by
  rcases hO.2 with ⟨rfl, hn0⟩ | ⟨g, cap, cur, rfl, hbg, hcur, hnc, hcm, hcs, htk⟩
  · have hU : U = [] := List.length_eq_zero_iff.1 hn0
    subst hU
    refine (pf_compact_nil w).mono ?_
    rintro _ w' ⟨rfl, rfl⟩
    exact ⟨_, rfl, Rd.nil _, Chg.refl _ _, fun b h => h⟩
  · obtain ⟨n, hn⟩ : ∃ n, U.length = n := ⟨_, rfl⟩
    rw [hn] at hnc htk hl ⊢
    have hRow : RowP w g U (cur.toList.drop (n * 3)) := by
      unfold RowP Blk
      rw [← htk, List.take_append_drop]; simpa using hcur
    have hcm2 : cap ≤ 9223372036854775807 := by unfold maxLen at hcm; omega
    refine (pf_compact hRow hn hnc ⟨by omega, hcm2⟩ hl).mono ?_
    rintro _ w' ⟨rfl, Z', hR, hZ, hC⟩
    have hcl := compL_len U
    have hcs' : cur.toList.length = cap * 3 := by simpa using hcs
    have hO' : Owns w' g 37 3 (.slice (some ⟨g, 0, none⟩) (compL U).length cap) (compL U).length (pfsV (compL U)) := by
      refine Owns.of_blk hR (Nat.le_refl _) ?_ (by omega) hcm (pfsV_take _ _ _ rfl) (pfsV_len _)
      rw [List.length_append, pfsV_len]
      rw [List.length_drop] at hZ
      omega
    exact ⟨_, rfl, Rd.of_owns hO' pfEn_length, hC.mono fun i _ e => by subst e; rfl, fun b h => h⟩

def CsRel1 (w2 : World) (A : List Rt) (low high : Int) (v i : Value) (wr : World) : Prop :=
  ∃ (j : Nat), j ≤ A.length ∧ i = .int .i64 j ∧ Owns wr w2.heap.size 37 3 v (rawKeys (A.take j) low high).length (pfsV (rawKeys (A.take j) low high)) ∧ Below w2.heap.size w2 wr
def CsRel2 (w5 : World) (l : List Rt) (K : List Pf) (low : Int) (v i : Value) (wr : World) : Prop :=
  ∃ (j : Nat), j ≤ K.length ∧ i = .int .i64 j ∧ Owns wr w5.heap.size 39 4 v j (rtsV ((K.take j).map (atH l low))) ∧ Below w5.heap.size w5 wr
set_option maxHeartbeats 4000000 in
theorem cover_set (w : World) (v : Value) (l : List Rt) (hR : Rd rtEn 4 w v l) (hok : ∀ r ∈ l, r.1.1.ok) (hlen : l.length ≤ 1000) (low high : Int) :
    Calls Try.prog 26 #[v, .int .i64 low, .int .i64 high] w (RetRts w (setL l low high)) := by
  have c0 := hid (cover_of w v l hR hok (by omega))
  have HOK := hid (show ∀ r ∈ sortedL l, r.1.1.ok from fun r hr => hok r (sorted_mem hr))
  have HSL := hid (show (sortedL l).length ≤ 1000 from by have := sorted_le l; omega)
  have HSET := hid (fun (K : List Pf) h1 h2 => set_is (l := l) (low := low) (high := high) (K := K) h1 h2)
  have cAll := hid (fun (w' : World) (g : Nat) F N n (H : TrieN w' g F N (ofM l) n) => trie_all H (sortedL l) (sorted_ord l) (sorted_says l) HOK.out (by have := HSL.out; omega))
  have HRW := hid (rawKeys_right (sortedL l) low high)
  have HAO := hid (show ∀ r ∈ (sortedL l).filter (fun r => decide r.1.right), r.1.1.ok from fun r hr => HOK.out r (List.mem_filter.1 hr).1)
  have HAL := hid (show ((sortedL l).filter (fun r => decide r.1.right)).length ≤ 1000 from by have := List.length_filter_le (fun r : Rt => decide r.1.right) (sortedL l); have := HSL.out; omega)
  generalize (sortedL l).filter (fun r => decide r.1.right) = A at cAll HRW HAO HAL
  clear hR hok hlen
  go_enter Try.func26, Try.ntmps26
  go_wp2_with fail
  refine c0.out.mono ?_
  rintro _ w1 ⟨g, F, N, n, rfl, hT, h0, hn, hF, hb⟩
  have HT1 := hid hT
  have HB1 := hid hb
  have cA1 := hid (cAll.out w1 g F N n hT)
  clear hT hb h0 hn hF c0 cAll
  go_wp2_with fail
  refine cA1.out.mono ?_
  rintro _ w2 ⟨vA, rfl, hOA, hb2⟩
  have HB2 := hid (held_next HB1.out hb2)
  have HT2 := hid (HT1.out.below hb2)
  have HRA := hid hOA.rd
  obtain ⟨Aa, ca, rfl⟩ := hOA.form
  obtain ⟨na, hna⟩ : ∃ n, A.length = n := ⟨_, rfl⟩
  rw [hna] at HRA ⊢
  have HNA := hid hna
  have hna2 : na ≤ 1000 := by have := HAL.out; omega
  clear hOA hb2 hna cA1 HT1 HB1
  go_wp2_with fail
  go_loopw [8, 21] (fun v i wr => CsRel1 w2 A low high v i wr) (fun _ i _ => na - (intOf i).toNat)
  case atStart => exact ⟨0, Nat.zero_le _, rfl, Owns.nil _ _ _ _, Below.refl _ _⟩
  case round =>
    obtain ⟨j, hj, rfl, hO, hB⟩ := hrel
    have HO := hid hO
    have HB := hid hB
    have hraw := rawKeys_len (A.take j) low high
    rw [HNA.out] at hj
    rw [List.length_take] at hraw
    obtain ⟨Ak, ck, rfl, _⟩ := Owns.form hO
    obtain ⟨nk, hnk⟩ : ∃ n, (rawKeys (A.take j) low high).length = n := ⟨_, rfl⟩
    rw [hnk] at HO hraw ⊢
    have hnk2 : nk ≤ 256000 := by have := HNA.out; omega
    have HNK := hid hnk
    clear hO hB hraw hnk
    by_cases hjn : j < na
    · obtain ⟨x, hx⟩ : ∃ x, A[j]? = some x := ⟨_, List.getElem?_eq_getElem (by rw [HNA.out]; exact hjn)⟩
      obtain ⟨ba, oa, qa, hva, _, _, la, sa⟩ := HRA.out.get rtEn_length (by decide) hx
      injection hva with a1 a2 a3
      subst a1 a3
      have y0 : wr.cell? ⟨ba, oa + j * 4, none⟩ = some (.int .u64 (x.1.1.1 : Int)) := (HB.out.cell (p := ⟨ba, oa + j * 4, none⟩) la).trans (sa 0 _ rfl)
      have y1 : wr.cell? ⟨ba, oa + j * 4 + 1, none⟩ = some (.int .u64 (x.1.1.2 : Int)) := (HB.out.cell (p := ⟨ba, oa + j * 4 + 1, none⟩) la).trans (sa 1 _ rfl)
      have y2 : wr.cell? ⟨ba, oa + j * 4 + 2, none⟩ = some (.int .i64 x.1.2) := (HB.out.cell (p := ⟨ba, oa + j * 4 + 2, none⟩) la).trans (sa 2 _ rfl)
      have y3 : wr.cell? ⟨ba, oa + j * 4 + 3, none⟩ = some (.int .i64 x.2) := (HB.out.cell (p := ⟨ba, oa + j * 4 + 3, none⟩) la).trans (sa 3 _ rfl)
      have HSN := hid (rawKeys_snoc hx low high)
      have j0 : (0 : Int) ≤ (j : Int) := by omega
      have j1 : (j : Int) < (na : Int) := by omega
      have HJ := hid hjn
      have hxok := hid (HAO.out x (List.mem_of_getElem? hx))
      have cK := hid (fun w => spread_keys x.1 hxok.out high w)
      have hkl := keysP_len x.1 high
      clear a2 sa la hx hjn
      by_cases hin : low < x.1.2 ∧ x.1.2 ≤ high
      · have e1 : inLv low high x = true := decide_eq_true hin
        rw [e1, if_pos rfl] at HSN
        generalize keysP x.1 high = KS at HSN cK hkl
        obtain ⟨d1, d2⟩ := hin
        obtain ⟨⟨⟨x1, x2⟩, x3⟩, x4⟩ := x
        simp only at y0 y1 y2 y3 d1 d2 cK
        clear e1
        have hBX := (Below.refl wr.heap.size wr).alloc (Nat.le_refl _) (.cells #[.int .u64 (x1 : Int), .int .u64 (x2 : Int), .int .i64 x3, .int .i64 x4] 39)
        have HBX := hid hBX
        clear hBX
        go_wp2_with fail
        refine (cK.out _).mono ?_
        rintro _ w4 ⟨v4, rfl, hO4, hb4⟩
        have HW4 := hid (HBX.out.trans (hb4.mono HBX.out.size))
        have HB4 := hid (held_next HB.out HW4.out)
        have HO4 := hid (Owns.below HO.out HW4.out)
        have HR4 := hid (Rd.of_owns (l := KS) hO4 pfEn_length)
        have HSZ := hid (show w2.heap.size ≤ w4.heap.size from HB4.out.size)
        clear hO4 hb4 cK y0 y1 y2 y3
        obtain ⟨A4, c4, rfl, _⟩ := HR4.out.form
        obtain ⟨n4, hn4⟩ : ∃ n, KS.length = n := ⟨_, rfl⟩
        have HR4' := HR4.out
        rw [hn4] at HR4' hkl ⊢
        have HR5 := hid HR4'
        have HN4 := hid hn4
        clear HR4 HR4' hn4
        go_wp2_with (at_builtin; refine wpList_append_rd rfl _ _ 74 rfl 37 _ 3 24 Try.underlying74 pf_row rfl (by decide) w2.heap.size _ nk _ rfl HO4.out _ rfl KS HR5.out pfEn_length cells_pf ?c1 ?c2 ?c3 ?_)
        case c1 => rw [HN4.out]; unfold maxLen; omega
        case c2 => rw [HN4.out]; omega
        case c3 => exact HSZ.out
        intro v6 w6 hO6 hC6
        have HB6 := hid (HB4.out.trans (hC6.below HSZ.out (fun i hi h => by have := (Owns.base_le HO4.out i h).1; omega)))
        have HO6 := hid (show Owns w6 w2.heap.size 37 3 v6 (rawKeys (A.take (j + 1)) low high).length (pfsV (rawKeys (A.take (j + 1)) low high)) from by
          rw [HSN.out, List.length_append, HNK.out, pfsV_app]; exact hO6)
        clear hO6 hC6
        go_wp2_with fail
        go_roundw
        case rel => exact ⟨j + 1, by have := HJ.out; have := HNA.out; omega, by go_num, HO6.out, HB6.out⟩
        case measure => have := HJ.out; simp [intOf]; omega
      · have e1 : inLv low high x = false := decide_eq_false hin
        rw [e1, if_neg (by decide), List.append_nil] at HSN
        have HO6 := hid (fun (w' : World) (h : Below wr.heap.size wr w') => show Owns w' w2.heap.size 37 3 (.slice Ak nk ck) (rawKeys (A.take (j + 1)) low high).length (pfsV (rawKeys (A.take (j + 1)) low high)) from by
          rw [HSN.out, HNK.out]; exact Owns.below HO.out h)
        obtain ⟨⟨⟨x1, x2⟩, x3⟩, x4⟩ := x
        simp only at y0 y1 y2 y3 hin
        have HBX := hid ((Below.refl wr.heap.size wr).alloc (Nat.le_refl _) (.cells #[.int .u64 (x1 : Int), .int .u64 (x2 : Int), .int .i64 x3, .int .i64 x4] 39))
        clear e1 cK hkl
        by_cases d1 : low < x3
        · have d2 : ¬ x3 ≤ high := fun h => hin ⟨d1, h⟩
          clear hin
          go_wp2_with fail
          go_roundw
          case rel => exact ⟨j + 1, by have := HJ.out; have := HNA.out; omega, by go_num, HO6.out _ HBX.out, held_next HB.out HBX.out⟩
          case measure => have := HJ.out; simp [intOf]; omega
        · clear hin
          go_wp2_with fail
          go_roundw
          case rel => exact ⟨j + 1, by have := HJ.out; have := HNA.out; omega, by go_num, HO6.out _ HBX.out, held_next HB.out HBX.out⟩
          case measure => have := HJ.out; simp [intOf]; omega
    · have hjj : A.take j = A := List.take_of_length_le (by rw [HNA.out]; omega)
      rw [hjj, HRW.out] at HO HNK
      have HKOK := hid (rawKeys_ok (A := sortedL l) HOK.out (low := low) (high := high))
      generalize rawKeys (sortedL l) low high = RK at HO HNK HSET HKOK
      have c3 : ¬ (j : Int) < (na : Int) := by omega
      have cS := hid (sort_prefixes wr w2.heap.size (.slice Ak nk ck) RK (by rw [HNK.out]; exact HO.out) (by rw [HNK.out]; omega))
      go_wp2_with fail
      refine cS.out.mono ?_
      rintro _ w3 ⟨rfl, U, hU1, hU2, hU3, hC3⟩
      have HU := hid (compL_spec (sorted_not hU2))
      have HM := hid (fun k => (HU.out.2 k).trans (hU1.mem_iff (a := k)))
      have HUL := hid (show U.length ≤ 256000 from by rw [hU1.length_eq, HNK.out]; exact hnk2)
      have cC := hid (pf_compact_own (v := .slice Ak nk ck) hU3 (by have := HUL.out; omega))
      have HB3 := hid (HB.out.trans (hC3.below HB.out.size (fun i hi h => by have := (Owns.base_le HO.out i h).1; omega)))
      have HV3 := hid (fun i h => (Owns.base_le hU3 i h).1)
      have HKS := hid (HSET.out (compL U) HU.out.1 HM.out)
      have HKK := hid (fun k hk => HKOK.out k ((HM.out k).1 hk))
      have HKL := hid (show (compL U).length ≤ 256000 from by have := compL_len U; have := HUL.out; omega)
      generalize compL U = K at cC HKS HKK HKL
      clear hU1 hU2 hU3 hC3 cS HU HM HUL HB HO
      go_wp2_with fail
      refine cC.out.mono ?_
      rintro _ w5 ⟨v5, rfl, hR5, hC5, _⟩
      have HB5 := hid (HB3.out.trans (hC5.below HB3.out.size (fun i hi h => by have := HV3.out i h; omega)))
      have HRK := hid hR5
      have HT5 := hid (HT2.out.below HB5.out)
      obtain ⟨A5, c5, rfl, k1, k2⟩ := hR5.form
      unfold maxLen at k2
      obtain ⟨nK, hnK⟩ : ∃ n, K.length = n := ⟨_, rfl⟩
      have HKL2 := HKL.out
      rw [hnK] at HRK k1 HKL2 ⊢
      have HNKK := hid hnK
      clear hR5 hC5 cC HB3 HT2 hnK HKL
      go_wp2_with fail
      go_loopw [11, 49] (fun v i wr => CsRel2 w5 l K low v i wr) (fun _ i _ => nK - (intOf i).toNat)
      case atStart => exact ⟨0, Nat.zero_le _, rfl, Owns.nil _ _ _ _, Below.refl _ _⟩
      case round =>
        obtain ⟨i, hi, rfl, hO, hB⟩ := hrel
        have HO := hid hO
        have HB := hid hB
        rw [HNKK.out] at hi
        obtain ⟨Ao, co, rfl, _⟩ := Owns.form hO
        clear hO hB
        by_cases hin : i < nK
        · obtain ⟨x, hx⟩ : ∃ x, K[i]? = some x := ⟨_, List.getElem?_eq_getElem (by rw [HNKK.out]; exact hin)⟩
          obtain ⟨bk, ok, qk, hvk, _, _, lk, sk⟩ := HRK.out.get pfEn_length (by decide) hx
          injection hvk with a1 a2 a3
          subst a1 a3
          have y0 : wr.cell? ⟨bk, ok + i * 3, none⟩ = some (.int .u64 (x.1.1 : Int)) := (HB.out.cell (p := ⟨bk, ok + i * 3, none⟩) lk).trans (sk 0 _ rfl)
          have y1 : wr.cell? ⟨bk, ok + i * 3 + 1, none⟩ = some (.int .u64 (x.1.2 : Int)) := (HB.out.cell (p := ⟨bk, ok + i * 3 + 1, none⟩) lk).trans (sk 1 _ rfl)
          have y2 : wr.cell? ⟨bk, ok + i * 3 + 2, none⟩ = some (.int .i64 x.2) := (HB.out.cell (p := ⟨bk, ok + i * 3 + 2, none⟩) lk).trans (sk 2 _ rfl)
          have HTK := hid (show (K.take (i + 1)).map (atH l low) = (K.take i).map (atH l low) ++ [atH l low x] from by
            obtain ⟨hk, e⟩ := List.getElem?_eq_some_iff.1 hx
            rw [List.take_succ_eq_append_getElem hk, e, List.map_append]; rfl)
          have hxok := hid (HKK.out x (List.mem_of_getElem? hx))
          have cA := hid (fun (w' : World) (h : Below wr.heap.size wr w') => cover_at (HT5.out.below (HB.out.trans (h.mono HB.out.size))) x hxok.out low)
          have HAT := hid (show atH l low x = (x, (atV (ofM l) x low).getD 0) from rfl)
          have i0 : (0 : Int) ≤ (i : Int) := by omega
          have i1 : (i : Int) < (nK : Int) := by omega
          have HI := hid hin
          generalize atV (ofM l) x low = av at cA HAT
          obtain ⟨⟨x1, x2⟩, x3⟩ := x
          simp only at y0 y1 y2 cA
          have HPK := hid (Blk.new wr [.int .u64 (x1 : Int), .int .u64 (x2 : Int), .int .i64 x3] 37)
          have HBX := hid ((Below.refl wr.heap.size wr).alloc (Nat.le_refl _) (.cells #[.int .u64 (x1 : Int), .int .u64 (x2 : Int), .int .i64 x3] 37))
          clear a2 sk lk hx hin
          go_wp2_with fail
          refine (cA.out _ HBX.out).mono ?_
          rintro _ w6 ⟨rfl, hb6⟩
          have HP6 := hid (HPK.out.below' hb6)
          have HW6 := hid (HBX.out.trans (hb6.mono HBX.out.size))
          have HB6 := hid (held_next HB.out HW6.out)
          have HO6 := hid (Owns.below HO.out HW6.out)
          have z0 := HP6.out.cellv (i := 0) rfl
          have z1 := HP6.out.cellv (i := 1) rfl
          have z2 := HP6.out.cellv (i := 2) rfl
          have hsz : w5.heap.size ≤ w6.heap.size := HB6.out.size
          generalize av.getD 0 = hop at HAT ⊢
          generalize av.isSome = is
          clear hb6 cA y0 y1 y2 HPK
          go_wp2_with (at_builtin; refine wpList_pushm rfl _ _ 22 rfl 39 _ 4 32 Try.underlying22 rt_row rfl (by decide) w5.heap.size _ i _ rfl HO6.out _ rfl 1 [.int .u64 _, .int .u64 _, .int .i64 _, .int .i64 _] rfl rfl ?c1 ?c2 ?c3 ?c4 ?_)
          case c1 => intro u hu; simp at hu; rcases hu with rfl | rfl | rfl | rfl <;> rfl
          case c2 => unfold maxLen; omega
          case c3 => omega
          case c4 => exact hsz
          intro v7 w7 hO7 hC7
          have HB7 := hid (HB6.out.trans (hC7.below hsz (fun z hz h => by have := (Owns.base_le HO6.out z h).1; omega)))
          have HO7 := hid (show Owns w7 w5.heap.size 39 4 v7 (i + 1) (rtsV ((K.take (i + 1)).map (atH l low))) from by
            rw [HTK.out, rtsV_app, HAT.out, List.map_take]; exact hO7)
          clear hO7 hC7
          go_wp2_with fail
          go_roundw
          case rel => exact ⟨i + 1, by have := HI.out; have := HNKK.out; omega, by go_num, HO7.out, HB7.out⟩
          case measure => have := HI.out; simp [intOf]; omega
        · have hkk : K.take i = K := List.take_of_length_le (by rw [HNKK.out]; omega)
          have HF := hid (show RetRts w (setL l low high) (.returned (.slice Ao i co)) wr from by
            have h := HO.out
            rw [hkk, HKS.out] at h
            have hin' : i = (setL l low high).length := by rw [← HKS.out, List.length_map, HNKK.out]; omega
            refine ⟨_, rfl, ?_, ?_⟩
            · unfold OwnRts; rw [← hin']; exact h.lower (by have := HB2.out.size; have := HB5.out.size; omega)
            · have h25 := HB2.out.trans (HB5.out.mono HB2.out.size)
              exact h25.trans (HB.out.mono h25.size))
          have c4 : ¬ (i : Int) < (nK : Int) := by omega
          go_wp2_with fail
          go_ret
          exact HF.out

end Go.Proofs.Ytcchjljdhjkmeaa
