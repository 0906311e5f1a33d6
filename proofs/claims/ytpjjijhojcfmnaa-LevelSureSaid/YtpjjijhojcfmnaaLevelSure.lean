/-
  The walk of the law LevelSure: for all inputs it returns true and leaves memory alone. No condition.
-/
import Derived.Test.YtpjjijhojcfmnaaLevelLaw
namespace Go.Proofs.Ytpjjijhojcfmnaa
open Go.RowKit
set_option linter.unusedVariables false
set_option linter.unusedSimpArgs false
set_option maxRecDepth 100000

/-- The level, the list that it stands for in a slice of its own, and the address of the last look. -/
structure SrSt (W wr : World) (b : Nat) (v : Value) (n s : Nat) (k : Int) (x : List Nat × Tb) (now : List Rt) (a : Ad) : Prop where
  lv : Lv wr b (fun z => W.heap.size < z ∧ v.ownBlock ≠ some z) (n : Int) s k x.1 x.2
  st : Owns wr (W.heap.size + 1) 73 4 v now.length (rtsV now)
  ab : Blk wr W.heap.size 32 [.int .u64 (a.1 : Int), .int .u64 (a.2 : Int)]
  b : Below W.heap.size W wr
section
variable {W wr w' : World} {b n s : Nat} {v v' : Value} {k : Int} {x y : List Nat × Tb} {now now' : List Rt} {a : Ad}
theorem SrSt.rd (h : SrSt W wr b v n s k x now a) : Rd rtEn 4 wr v now := Rd.of_owns (en := rtEn) h.st rtEn_length
theorem SrSt.below (h : SrSt W wr b v n s k x now a) (hb : Below wr.heap.size wr w') : SrSt W w' b v n s k x now a := ⟨h.lv.below hb, h.st.below hb, h.ab.below' hb, held_next h.b hb⟩
theorem SrSt.turn {wm : World} (h : SrSt W wm b v n s k x now a) {N : Nat} (hN : W.heap.size < N) (hNm : ∀ z, v.ownBlock = some z → z < N) (hl : Lv w' b (fun z => ((W.heap.size < z ∧ v.ownBlock ≠ some z) ∧ z < N) ∨ wm.heap.size ≤ z) (n : Int) s k y.1 y.2) (hc : Chg (fun z => (W.heap.size < z ∧ v.ownBlock ≠ some z) ∧ z < N) wm w') (hNs : N ≤ wm.heap.size) : SrSt W w' b v n s k y now a :=
  ⟨hl.mono fun z _ hz => by
      rcases hz with hz | hz
      · exact hz.1
      · exact ⟨by omega, fun e => by have := hNm z e; omega⟩,
    Owns.chg h.st hc (fun z hz hn => hn.1.2 hz), h.ab.chg hc (fun hz => by have := hz.1.1; omega), h.b.trans (hc.below h.b.size fun z hz hn => by have := hn.1.1; omega)⟩
theorem SrSt.list (h : SrSt W wr b v n s k x now a) (hO : OwnRts wr now' w' v') (hb : Below wr.heap.size wr w') : SrSt W w' b v' n s k x now' a :=
  ⟨(h.lv.mono (G := fun z => W.heap.size < z ∧ v'.ownBlock ≠ some z) fun z hz hF => ⟨hF.1, fun e => by have := (Owns.base_le hO z e).1; omega⟩).below hb, Owns.lower hO h.ab.lt, h.ab.below' hb, held_next h.b hb⟩
end

set_option maxHeartbeats 8000000 in
theorem levelSure_out (W : World) (n : Int) (s : Nat) (k m : Int) (A1 : Option Addr) (c1 N : Nat) (h1 : N ≤ c1) (hc1 : c1 ≤ maxLen) (a : Ad) (h : n < 1 ∨ 128 < n ∨ k < 1 ∨ 16 < k ∨ m < 1 ∨ 300 < m ∨ 80 < N) :
    Calls Try.prog 11 #[.int .i64 n, .int .u64 (s : Int), .int .i64 k, .int .i64 m, .slice A1 N c1, .agg #[.int .u64 (a.1 : Int), .int .u64 (a.2 : Int)]] W fun e W' => e = .returned (.bool true) ∧ Below W.heap.size W W' := by
  unfold maxLen at hc1
  have hB0 := hid ((Below.refl W.heap.size W).alloc (Nat.le_refl _) (.cells #[.int .u64 (a.1 : Int), .int .u64 (a.2 : Int)] 32))
  obtain ⟨a1, a2⟩ := a
  have h' : n < 1 ∨ ¬ n < 1 ∧ 128 < n ∨ ¬ n < 1 ∧ ¬ 128 < n ∧ k < 1 ∨ ¬ n < 1 ∧ ¬ 128 < n ∧ ¬ k < 1 ∧ 16 < k ∨ ¬ n < 1 ∧ ¬ 128 < n ∧ ¬ k < 1 ∧ ¬ 16 < k ∧ m < 1 ∨ ¬ n < 1 ∧ ¬ 128 < n ∧ ¬ k < 1 ∧ ¬ 16 < k ∧ ¬ m < 1 ∧ 300 < m ∨
      ¬ n < 1 ∧ ¬ 128 < n ∧ ¬ k < 1 ∧ ¬ 16 < k ∧ ¬ m < 1 ∧ ¬ 300 < m ∧ 80 < (N : Int) := by omega
  clear h
  rcases h' with h' | ⟨h2, h'⟩ | ⟨h2, h3, h'⟩ | ⟨h2, h3, h4, h'⟩ | ⟨h2, h3, h4, h5, h'⟩ | ⟨h2, h3, h4, h5, h6, h'⟩ | ⟨h2, h3, h4, h5, h6, h7, h'⟩
  all_goals
    go_enter Try.func11, Try.ntmps11
    go_wp2_with fail
    refine (level_alive _).mono ?_
    rintro e w1 ⟨rfl, hb⟩
    have HB1 := hid (hB0.out.trans (hb.mono hB0.out.size))
    clear hb
    go_wp2_with fail
    go_ret
    exact ⟨by simp, HB1.out⟩

def SrRel (W : World) (b n s : Nat) (k : Int) (x0 : List Nat × Tb) (xs : List Ch) (a : Ad) (v i : Value) (wr : World) : Prop :=
  ∃ j : Nat, j ≤ xs.length ∧ i = .int .i64 j ∧ SrSt W wr b v n s k (lvRun s k (n : Int) x0 (xs.take j)) (lvRunL (n : Int) [] (xs.take j)) a
def SrEnd (w0 : World) (m : Nat) (i : Value) (wr : World) : Prop := ∃ k : Nat, k ≤ m ∧ i = .int .i64 k ∧ Below w0.heap.size w0 wr
theorem lvLs_parts (n : Int) {l : List Rt} (hs : l.Pairwise (fun x y => x.1.lt y.1)) (x : Ch) :
    (x.1.2 ≠ n → lvLs n l x = l) ∧ (x.1.2 = n → ¬ 0 ≤ x.2.2 → lvLs n l x = withoutL l x.1) ∧ (x.1.2 = n → 0 ≤ x.2.2 → lvLs n l x = intoL (withoutL l x.1) (x.1, x.2.2)) := by
  unfold lvLs lvL
  refine ⟨fun h => if_neg h, fun h h2 => by rw [if_pos h, if_neg h2], fun h h2 => by rw [if_pos h, if_pos h2, into_without hs]⟩

set_option maxHeartbeats 8000000 in
theorem levelSure_in (W : World) (n : Nat) (hn1 : 1 ≤ n) (hn2 : n ≤ 128) (s : Nat) (hs : s < 2 ^ 64) (k : Int) (hk1 : 1 ≤ k) (hk2 : k ≤ 16) (m : Nat) (hm1 : 1 ≤ m) (hm2 : m ≤ 300) (v1 : Value) (xs : List Ch) (R1 : Rd chgEn 5 W v1 xs) (o1 : ∀ x ∈ xs, x.1.1.ok) (hl : xs.length ≤ 80) (a : Ad) (ha : a.ok) :
    Calls Try.prog 11 #[.int .i64 (n : Int), .int .u64 (s : Int), .int .i64 k, .int .i64 (m : Int), v1, .agg #[.int .u64 (a.1 : Int), .int .u64 (a.2 : Int)]] W fun e W' => e = .returned (.bool true) ∧ Below W.heap.size W W' := by
  have HR1 := hid fun k x (h : xs[k]? = some x) => R1.get chgEn_len (by decide) h
  have O1 := hid fun (j : Nat) (x : Ch) (h : xs[j]? = some x) => o1 x (List.mem_of_getElem? h)
  have hI0 := lvNew_ok (s := s) k m 1 (by decide) (by decide)
  have HRUN := hid (lvRun_ok (a := (List.replicate m 0, newT (mixN s) 1)) hI0 (n : Int) xs o1)
  have HSN := hid fun (j : Nat) (x : Ch) (h : xs[j]? = some x) => lvRun_snoc (s := s) (k := k) (n := (n : Int)) (a := (List.replicate m 0, newT (mixN s) 1)) h
  have HSL := hid fun (j : Nat) (x : Ch) (h : xs[j]? = some x) => lvRunL_snoc (n := (n : Int)) (l := []) h
  have HLM := hid fun (j : Nat) => lvRunL_mem (n := (n : Int)) (xs.take j) [] (fun r hr => by simp at hr)
  obtain ⟨A1, k1, rfl, n1, m1⟩ := R1.form
  unfold maxLen at m1
  obtain ⟨N, hN1⟩ : ∃ N, xs.length = N := ⟨_, rfl⟩
  have HN1 := hid hN1
  have HA := hid ha
  rw [hN1] at n1 hl ⊢
  have cnew := hid fun w => lv_new w (n : Int) s hs k m 1 (by omega) (by omega) hk1 hk2 hm1 (by omega) (by decide) (by decide)
  unfold LvNew at cnew
  obtain ⟨x0, hx0⟩ : ∃ x0, (List.replicate m 0, newT (mixN s) 1) = x0 := ⟨_, rfl⟩
  rw [hx0] at HRUN HSN
  have hx1 : List.replicate m 0 = x0.1 := by rw [← hx0]
  have hx2 : newT (mixN s) 1 = x0.2 := by rw [← hx0]
  rw [hx1, hx2] at cnew
  clear R1 o1 hN1 hs ha hI0 hx0 hx1 hx2
  have d1 : ¬ ((n : Int) < 1) := by omega
  have d2 : ¬ (128 < (n : Int)) := by omega
  have d3 : ¬ k < 1 := by omega
  have d4 : ¬ 16 < k := by omega
  have d5 : ¬ ((m : Int) < 1) := by omega
  have d6 : ¬ (300 < (m : Int)) := by omega
  have d7 : ¬ (80 < (N : Int)) := by omega
  obtain ⟨a1, a2⟩ := a
  have HB0 := hid ((Below.refl W.heap.size W).alloc (Nat.le_refl _) (.cells #[.int .u64 (a1 : Int), .int .u64 (a2 : Int)] 32))
  have HP0 := hid (Blk.new_at W #[.int .u64 (a1 : Int), .int .u64 (a2 : Int)] 32 W.heap.size rfl)
  go_enter Try.func11, Try.ntmps11
  go_wp2_with fail
  refine (level_alive _).mono ?_
  rintro e w1 ⟨rfl, hb⟩
  have HB1 := hid (HB0.out.trans (hb.mono HB0.out.size))
  have HP1 := hid (HP0.out.below' hb)
  clear hb HB0 HP0
  go_wp2_with fail
  refine (cnew.out _).mono ?_
  rintro _ w2 ⟨b, F, rfl, hL, hF, hb2⟩
  have lp1 := HP1.out.lt
  have HS := hid (show SrSt W w2 b (.slice none 0 0) n s k x0 [] (a1, a2) from ⟨hL.mono (fun z _ hz => ⟨by have := hF z hz; omega, by simp [Value.ownBlock]⟩), Owns.nil _ _ _ _, HP1.out.below' hb2, held_next HB1.out hb2⟩)
  clear hL hF hb2 HB1 HP1 cnew lp1
  go_wp2_with fail
  refine (law21_num _ _).mono ?_
  rintro _ w3 ⟨rfl, rfl⟩
  go_wp2_with fail
  go_loopw [16, 17] (fun v i wr => SrRel W b n s k x0 xs (a1, a2) v i wr) (fun _ i _ => N - (intOf i).toNat)
  case atStart => exact ⟨0, Nat.zero_le _, rfl, HS.out⟩
  case round =>
    clear HS
    obtain ⟨j, hj, rfl, hS⟩ := hrel
    rw [HN1.out] at hj
    have HRK := hid (HRUN.out j (by rw [HN1.out]; exact hj))
    have HLMj := hid (HLM.out j)
    by_cases h1 : j < N
    · obtain ⟨x, hx⟩ : ∃ x, xs[j]? = some x := ⟨_, List.getElem?_eq_getElem (by rw [HN1.out]; exact h1)⟩
      have SN1 := hid (HSN.out j x hx)
      have SL1 := hid (HSL.out j x hx)
      generalize lvRun s k (n : Int) x0 (xs.take j) = y at *
      generalize lvRunL (n : Int) [] (xs.take j) = now at *
      obtain ⟨ba, oa, ca, hv, _, _, la, sa⟩ := HR1.out j x hx
      injection hv with hA hxx hc
      subst hA hc
      have HC := hid (show ∀ w, Below W.heap.size W w → w.cell? ⟨ba, oa + j * 5, none⟩ = some (.int .u64 (x.1.1.1 : Int)) ∧ w.cell? ⟨ba, oa + j * 5 + 1, none⟩ = some (.int .u64 (x.1.1.2 : Int)) ∧ w.cell? ⟨ba, oa + j * 5 + 2, none⟩ = some (.int .i64 x.1.2) ∧ w.cell? ⟨ba, oa + j * 5 + 3, none⟩ = some (.int .i64 x.2.1) ∧ w.cell? ⟨ba, oa + j * 5 + 4, none⟩ = some (.int .i64 x.2.2) from fun w h =>
        ⟨(h.cell (p := ⟨ba, oa + j * 5, none⟩) la).trans (sa 0 _ rfl), (h.cell (p := ⟨ba, oa + j * 5 + 1, none⟩) la).trans (sa 1 _ rfl), (h.cell (p := ⟨ba, oa + j * 5 + 2, none⟩) la).trans (sa 2 _ rfl), (h.cell (p := ⟨ba, oa + j * 5 + 3, none⟩) la).trans (sa 3 _ rfl), (h.cell (p := ⟨ba, oa + j * 5 + 4, none⟩) la).trans (sa 4 _ rfl)⟩)
      have HS := hid hS
      obtain ⟨An, cn, hvn, hnl, hncm, _⟩ := Owns.form hS.st
      subst hvn
      unfold maxLen at hncm
      have hnk := HRK.out.2
      simp only [List.length_nil, Nat.zero_add] at hnk
      obtain ⟨y0, y1, y2, y3, y4⟩ := HC.out _ HS.out.b
      have xok := hid (O1.out j x hx)
      have HPARTS := hid (lvLs_parts (n : Int) HRK.out.1.rep.ord x)
      have hj0 : (0 : Int) ≤ (j : Int) := by omega
      have hj1 : (j : Int) < (N : Int) := by omega
      clear sa hxx hx hS
      obtain ⟨⟨⟨x1, x2⟩, x3⟩, x4, x5⟩ := x
      simp only at y0 y1 y2 y3 y4 xok HC HPARTS
      have hbk := (Below.refl wr.heap.size wr).alloc (Nat.le_refl _) (.cells #[.int .u64 (x1 : Int), .int .u64 (x2 : Int), .int .i64 x3, .int .i64 x4, .int .i64 x5] 86)
      have hblk := Blk.new wr [.int .u64 (x1 : Int), .int .u64 (x2 : Int), .int .i64 x3, .int .i64 x4, .int .i64 x5] 86
      have HS3 := hid (HS.out.below hbk)
      have hVN := fun z hz => (Owns.base_le HS.out.st z hz).2
      have HVN := hid hVN
      have hlb := HS.out.ab.lt
      have hLr := (HS.out.lv.mono (G := fun z => (W.heap.size < z ∧ (Value.slice An now.length cn).ownBlock ≠ some z) ∧ z < wr.heap.size) (fun z hz h => ⟨h, hz⟩)).below hbk
      have hsz3 : wr.heap.size ≤ (wr.alloc (.cells #[.int .u64 (x1 : Int), .int .u64 (x2 : Int), .int .i64 x3, .int .i64 x4, .int .i64 x5] 86)).heap.size := by simp
      have cT := hid (lv_Turn (a := y) hLr HRK.out.1 (.slice (some ⟨wr.heap.size, 0, none⟩) 1 1) [(((x1, x2), x3), x4, x5)] (Rd.of_blk (en := chgEn) (l := [(((x1, x2), x3), x4, x5)]) hblk chgEn_len (by unfold maxLen; simp)) (by intro z hz; simp at hz; subst hz; exact xok.out) (fun z hz => by
        injection hz with hz
        have h1 : z = wr.heap.size := hz.symm
        subst h1
        exact ⟨fun h => by have := h.2; omega, by simp⟩) (by simp; omega))
      unfold LvTPost at cT
      rw [show lvRun s k (n : Int) y [(((x1, x2), x3), x4, x5)] = lvS s k (n : Int) y (((x1, x2), x3), x4, x5) from rfl] at cT
      have hlt3 : wr.heap.size < (wr.alloc (.cells #[.int .u64 (x1 : Int), .int .u64 (x2 : Int), .int .i64 x3, .int .i64 x4, .int .i64 x5] 86)).heap.size := by simp
      clear hbk hblk hLr HS hVN
      go_wp2_with fail
      refine cT.out.mono ?_
      rintro _ w4 ⟨rfl, hL4, hC4⟩
      have HS4 := hid (HS3.out.turn (y := lvS s k (n : Int) y (((x1, x2), x3), x4, x5)) hlb HVN.out hL4 hC4 hsz3)
      clear hL4 hC4 cT y0 y1 y2 y3 y4 HS3
      obtain ⟨y0, y1, y2, y3, y4⟩ := HC.out _ HS4.out.b
      by_cases hxn : x3 = (n : Int)
      · subst hxn
        go_wp2_with fail
        refine (ref_without _ _ now HS4.out.rd (by omega) ((x1, x2), (n : Int))).mono ?_
        rintro _ w6 ⟨v6, rfl, hO6, hb6⟩
        have HS6 := hid (HS4.out.list hO6 hb6)
        obtain ⟨A6, c6, hv6, _, hm6, _⟩ := Owns.form hO6
        unfold maxLen at hm6
        subst hv6
        clear hO6 hb6 HS4 y0 y1 y2 y3 y4
        obtain ⟨y0, y1, y2, y3, y4⟩ := HC.out _ HS6.out.b
        by_cases hnew : 0 ≤ x5
        · have hP := HPARTS.out.2.2 (by first | trivial | rfl) hnew
          have HPP := hid hP
          have hwl := without_le now ((x1, x2), (n : Int))
          have cI := hid (ref_into w6.drew _ (withoutL now ((x1, x2), (n : Int))) (HS6.out.below (Below.refl w6.heap.size w6).drew).rd (by omega) (((x1, x2), (n : Int)), x5))
          clear hP
          go_wp2_with fail
          have v0 : w6.drew.cell? ⟨ba, oa + j * 5, none⟩ = some (.int .u64 (x1 : Int)) := y0
          have v1 : w6.drew.cell? ⟨ba, oa + j * 5 + 1, none⟩ = some (.int .u64 (x2 : Int)) := y1
          have v2 : w6.drew.cell? ⟨ba, oa + j * 5 + 2, none⟩ = some (.int .i64 (n : Int)) := y2
          have v3 : w6.drew.cell? ⟨ba, oa + j * 5 + 4, none⟩ = some (.int .i64 x5) := y4
          go_region_held3 (fun w' => w'.cell? ⟨ba, oa + j * 5, none⟩ = some (.int .u64 (x1 : Int)) ∧ w'.cell? ⟨ba, oa + j * 5 + 1, none⟩ = some (.int .u64 (x2 : Int)) ∧ w'.cell? ⟨ba, oa + j * 5 + 2, none⟩ = some (.int .i64 (n : Int)) ∧ w'.cell? ⟨ba, oa + j * 5 + 4, none⟩ = some (.int .i64 x5)) (first | go_keep | (refine ⟨?_, ?_, ?_, ?_⟩ <;> assumption))
            (first
              | (with_reducible refine cI.out.mono ?_
                 rintro _ w7 ⟨v7, rfl, hO7, hb7⟩
                 have HS7 := hid (HS6.out.list (show OwnRts w6 _ w7 v7 from hO7) (show Below w6.heap.size w6 w7 from (Below.refl w6.heap.size w6).drew.trans hb7))
                 obtain ⟨t0', t1, t2, t3, t4⟩ := HC.out _ HS7.out.b))
          clear hO7 hb7 HS6 cI y0 y1 y2 y3 y4 v0 v1 v2 v3 t0' t1 t2 t3 t4
          go_wp2_with fail
          go_roundw
          case rel => exact ⟨j + 1, by rw [HN1.out]; omega, by go_num, by rw [SN1.out, SL1.out, HPP.out]; exact HS7.out⟩
          case measure => simp [intOf]; omega
        · have hP := HPARTS.out.2.1 (by first | trivial | rfl) (by omega)
          have HPP := hid hP
          clear hP
          go_wp2_with fail
          go_roundw
          case rel => exact ⟨j + 1, by rw [HN1.out]; omega, by go_num, by rw [SN1.out, SL1.out, HPP.out]; exact HS6.out⟩
          case measure => simp [intOf]; omega
      · have hP := HPARTS.out.1 hxn
        have HPP := hid hP
        clear hP
        go_wp2_with fail
        go_roundw
        case rel => exact ⟨j + 1, by rw [HN1.out]; omega, by go_num, by rw [SN1.out, SL1.out, HPP.out]; exact HS4.out⟩
        case measure => simp [intOf]; omega
    · have hjN : j = N := by omega
      subst hjN
      clear h1
      generalize lvRun s k (n : Int) x0 (xs.take j) = y at *
      generalize lvRunL (n : Int) [] (xs.take j) = now at *
      have hlk := HRK.out.2
      simp only [List.length_nil, Nat.zero_add] at hlk
      have HS := hid hS
      obtain ⟨An, cn, hvn, hnl, hncm, _⟩ := Owns.form hS.st
      unfold maxLen at hncm
      obtain ⟨q, hq⟩ : ∃ q, now.length = q := ⟨_, rfl⟩
      have HQ := hid hq
      subst hvn
      rw [hq] at HS hnl hlk ⊢
      clear hS hq
      have HI := hid HRK.out.1
      go_wp2_with fail
      go_loopw [18] (fun i w' => SrEnd wr q i w') (fun i _ => q - (intOf i).toNat)
      case atStart => exact ⟨0, Nat.zero_le _, rfl, Below.refl _ _⟩
      case round =>
        obtain ⟨i, hi, rfl, hbr⟩ := hrel
        have HS2 := hid (HS.out.below hbr)
        have HBR := hid hbr
        clear hbr
        by_cases hiq : i < q
        · obtain ⟨x, hx⟩ : ∃ x, now[i]? = some x := ⟨_, List.getElem?_eq_getElem (by rw [HQ.out]; exact hiq)⟩
          have hmem := List.mem_of_getElem? hx
          have hxl := HLMj.out x hmem
          have hok := HI.out.ok.ok x (keysT_mem.2 (HI.out.rep.mem.2 hmem))
          have hval := HI.out.rep.val HI.out.ok (p := x.1) (u := x.2) hmem
          have hmay := HI.out.may (by omega) hval.1
          obtain ⟨ba, oa, ca, hv, _, _, la, sa⟩ := HS2.out.rd.get rtEn_length (by decide) hx
          rw [HQ.out] at hv
          injection hv with hA hxx hc
          subst hA hc
          have z0 := sa 0 _ rfl
          have z1 := sa 1 _ rfl
          have z2 := sa 2 _ rfl
          have z3 := sa 3 _ rfl
          obtain ⟨⟨⟨x1, x2⟩, x3⟩, x4⟩ := x
          simp only at hxl hval hmay hok
          simp only [Nat.add_zero] at z0 z1 z2 z3
          subst hxl
          obtain ⟨R, hR⟩ : ∃ R : Bool, R = decide (Pf.right ((x1, x2), (n : Int))) := ⟨_, rfl⟩
          have cR := hid (fun w => ref_right (x1, x2) hok (n : Int) R hR w)
          have HRR := hid hR
          have cL := hid (fun (w' : World) (h : Below wr.heap.size wr w') (hr : Pf.right ((x1, x2), (n : Int))) => by
            have h1 := lv_look (HS2.out.below h).lv HI.out (by omega) hn2 (by rw [HQ.out]; omega) (x1, x2) hok
            have hcut : Ad.cut (x1, x2) n = (x1, x2) := by have := hr.2.2; simpa using this
            rw [hcut, hval.1, hval.2, hmay] at h1
            exact h1)
          have hi0 : (0 : Int) ≤ (i : Int) := by omega
          have hi1 : (i : Int) < (q : Int) := by omega
          have hlba := la
          have HZ := hid (And.intro z0 (And.intro z1 z3))
          clear sa hxx hx hok hval hmay hR hmem
          cases R
          · go_wp2_with fail
            refine (cR.out _).mono ?_
            rintro _ w7 ⟨rfl, hb7⟩
            have HB7 := hid (held_next HBR.out hb7)
            clear hb7 cR cL z0 z1 z2 z3
            go_wp2_with fail
            go_roundw
            case rel => exact ⟨i + 1, by omega, by go_num, HB7.out⟩
            case measure => simp [intOf]; omega
          · have hright := of_decide_eq_true HRR.out.symm
            have HRT := hid hright
            clear hright
            go_wp2_with fail
            refine (cR.out _).mono ?_
            rintro _ w7 ⟨rfl, hb7⟩
            have HB7' := hid hb7
            have z0 := (hb7.cell (p := ⟨ba, oa + i * 4, none⟩) (World.block_lt_of_cell? _ _ z0)).trans z0
            have z1 := (hb7.cell (p := ⟨ba, oa + i * 4 + 1, none⟩) (World.block_lt_of_cell? _ _ z1)).trans z1
            have z3 := (hb7.cell (p := ⟨ba, oa + i * 4 + 3, none⟩) (World.block_lt_of_cell? _ _ z3)).trans z3
            clear hb7 cR z2
            go_wp2_with fail
            refine (cL.out _ HB7'.out HRT.out).mono ?_
            rintro _ w8 ⟨rfl, hb8⟩
            have HB8 := hid (HBR.out.trans ((held_next HB7'.out hb8).mono HBR.out.size))
            have z3 := (hb8.cell (p := ⟨ba, oa + i * 4 + 3, none⟩) (World.block_lt_of_cell? _ _ z3)).trans z3
            clear hb8 cL z0 z1
            go_wp2_with fail
            go_roundw
            case rel => exact ⟨i + 1, by omega, by go_num, HB8.out⟩
            case measure => simp [intOf]; omega
        · have hiq' : i = q := by omega
          subst hiq'
          have cL := hid (lv_look HS2.out.lv HI.out (by omega) hn2 (by rw [HQ.out]; omega) (a1, a2) HA.out)
          have cC := hid (fun w => ref_cutN (a1, a2) HA.out n hn2 _ rfl w)
          have hmay := fun h => HI.out.may (by omega) (p := (Ad.cut (a1, a2) n, (n : Int))) h
          have hhas := HI.out.rep.has (Ad.cut (a1, a2) n, (n : Int))
          have hfi := findI_hasL now (Ad.cut (a1, a2) n, (n : Int))
          rw [← hhas] at hfi
          have cF := hid (fun (w' : World) (h : Rd rtEn 4 w' (.slice An i cn) now) => ref_find w' _ now h (Ad.cut (a1, a2) n, (n : Int)))
          generalize Ad.cut (a1, a2) n = ac at *
          generalize findI now (ac, (n : Int)) = f at *
          generalize valT y.2 (ac, (n : Int)) = VV at *
          generalize hasT y.2 (ac, (n : Int)) = HH at *
          generalize mayB (placesN s (ac, (n : Int)) k (m : Int)) y.1 = MM at *
          have HMAY := hid hmay
          have HFI := hid hfi
          have q0 := HS2.out.ab.cellv (i := 0) rfl
          have q1 := HS2.out.ab.cellv (i := 1) rfl
          clear hhas hmay hfi hiq
          obtain ⟨c1', c2'⟩ := ac
          simp only at cC cF
          go_wp2_with fail
          refine cL.out.mono ?_
          rintro _ w8 ⟨rfl, hb8⟩
          have HS8 := hid (HS2.out.below hb8)
          clear hb8 cL q0 q1 HS2
          have q0 := HS8.out.ab.cellv (i := 0) rfl
          have q1 := HS8.out.ab.cellv (i := 1) rfl
          go_wp2_with fail
          refine (cC.out _).mono ?_
          rintro _ w9 ⟨rfl, hb9⟩
          have HS9 := hid (HS8.out.below hb9)
          clear hb9 cC q0 q1 HS8
          go_wp2_with fail
          refine (cF.out _ HS9.out.rd).mono ?_
          rintro _ wA ⟨rfl, hbA⟩
          have HSA := hid (HS9.out.below hbA)
          have cK := hid (lv_keys HSA.out.lv HI.out (by rw [HQ.out]; omega))
          clear hbA cF HS9
          go_wp2_with fail
          refine cK.out.mono ?_
          rintro _ wB ⟨vB, rfl, hOB, hbB⟩
          have HSB := hid (HSA.out.below hbB)
          have cS := hid (ref_sameRts wB _ _ now now hOB.rd HSB.out.rd true (by simp))
          obtain ⟨AB, cB, hvB⟩ := hOB.form
          subst hvB
          rw [HQ.out] at cS ⊢
          clear hOB hbB cK HSA
          go_wp2_with fail
          refine cS.out.mono ?_
          rintro _ wC ⟨rfl, hbC⟩
          have HBC := hid (held_next HSB.out.b hbC)
          clear hbC cS
          have hff := HFI.out
          cases HH
          · have hf0' : ¬ 0 ≤ f := of_decide_eq_false hff
            have hf0 : f < 0 := by omega
            clear hff hf0'
            go_wp2_with fail
            all_goals
              go_ret
              exact ⟨by first | rfl | (simp; omega), HBC.out⟩
          · have hf0 : 0 ≤ f := of_decide_eq_true hff
            have hmm := HMAY.out rfl
            subst hmm
            clear hff
            go_wp2_with fail
            go_ret
            exact ⟨by simp, HBC.out⟩
theorem levelSure_walk (W : World) (n : Int) (wn : (Lit.int .i64 n).wf = true) (s : Int) (ws : (Lit.int .u64 s).wf = true) (k : Int) (wk : (Lit.int .i64 k).wf = true) (m : Int) (wm : (Lit.int .i64 m).wf = true) (v1 : Value) (xs : List Ch) (R1 : Rd chgEn 5 W v1 xs) (o1 : ∀ x ∈ xs, Ch.fit x) (a : Ad) (ha : a.ok) :
    Calls Try.prog 11 #[.int .i64 n, .int .u64 s, .int .i64 k, .int .i64 m, v1, .agg (adEn a).toArray] W fun e W' => e = .returned (.bool true) ∧ Below W.heap.size W W' := by
  have hs := wf_u64 ws
  obtain ⟨z, rfl⟩ := Int.eq_ofNat_of_zero_le hs.1
  by_cases h : n < 1 ∨ 128 < n ∨ k < 1 ∨ 16 < k ∨ m < 1 ∨ 300 < m ∨ 80 < xs.length
  · obtain ⟨A, c, rfl, h1, h2⟩ := R1.form
    exact levelSure_out W n z k m A c _ h1 h2 a h
  · obtain ⟨n, rfl⟩ := Int.eq_ofNat_of_zero_le (show 0 ≤ n by omega)
    obtain ⟨m, rfl⟩ := Int.eq_ofNat_of_zero_le (show 0 ≤ m by omega)
    exact levelSure_in W n (by omega) (by omega) z (by omega) k (by omega) (by omega) m (by omega) (by omega) v1 xs R1 (fun x hx => (o1 x hx).1.1) (by omega) a ha

end Go.Proofs.Ytpjjijhojcfmnaa
