/-
  The walk of the law TriePlays: for all inputs it returns true and leaves memory alone. No condition.
-/
import Derived.Test.YtjhgmjfjlndomaaTriePlaysM
import Derived.Test.YtjhgmjfjlndomaaTrieRoute
namespace Go.Proofs.Ytjhgmjfjlndomaa
open Go.RowKit
set_option linter.unusedVariables false
set_option linter.unusedSimpArgs false
set_option maxRecDepth 100000
attribute [local go_sem high] eq_ad eq_pf eq_rt

def PlayLoop (W : World) (g q L : Nat) (a : Ad) (p : Pf) (vn i : Value) (wr : World) : Prop :=
  ∃ (k : Nat) (now : List Rt), k ≤ L ∧ i = .int .i64 k ∧ Play (fun z => z < W.heap.size + 2) g q k now now vn wr ∧ Blk wr W.heap.size 24 [.int .u64 (a.1 : Int), .int .u64 (a.2 : Int)] ∧
    Blk wr (W.heap.size + 1) 26 [.int .u64 (p.1.1 : Int), .int .u64 (p.1.2 : Int), .int .i64 p.2] ∧ Below W.heap.size W wr

theorem triePlays_out (W : World) (A : Option Addr) (cap n : Nat) (hl : n ≤ cap) (hc : cap ≤ maxLen) (a : Ad) (p : Pf) (low high : Int) (h : ¬ n ≤ 100) :
    Calls Try.prog 8 #[.slice A n cap, .agg #[.int .u64 (a.1 : Int), .int .u64 (a.2 : Int)], .agg #[.int .u64 (p.1.1 : Int), .int .u64 (p.1.2 : Int), .int .i64 p.2], .int .i64 low, .int .i64 high] W fun e W' => e = .returned (.bool true) ∧ Below W.heap.size W W' := by
  unfold maxLen at hc
  obtain ⟨x, y⟩ := a
  obtain ⟨⟨z, t⟩, i⟩ := p
  go_enter Try.func8, Try.ntmps8
  go_wp2_with fail
  refine (trie_alive _).mono ?_
  rintro e w1 ⟨rfl, hb⟩
  have hb' := hid (Below.trans (b := _) (((Below.refl W.heap.size W).alloc (Nat.le_refl _) _).alloc (by simp) _) (hb.mono (by simp; omega)))
  clear hb
  go_wp2_with fail
  go_ret
  exact ⟨rfl, hb'.out⟩

theorem play_start (w1 : World) (n : Nat) (hn : n ≤ w1.heap.size) : Play (fun z => z < n) w1.heap.size (w1.heap.size + 1) 0 [] [] (.slice none 0 0) ((w1.alloc (.cells #[.bool false, .int .i64 0, .pointer none, .pointer none, .int .i64 0] 47)).alloc (.cells #[.bool false, .int .i64 0, .pointer none, .pointer none, .int .i64 0] 47)) := by
  have h1 := (TrieN.new w1).below ((Below.refl _ (w1.alloc (.cells #[.bool false, .int .i64 0, .pointer none, .pointer none, .int .i64 0] 47))).alloc (Nat.le_refl _) (.cells #[.bool false, .int .i64 0, .pointer none, .pointer none, .int .i64 0] 47))
  have h2 := TrieN.new (w1.alloc (.cells #[.bool false, .int .i64 0, .pointer none, .pointer none, .int .i64 0] 47))
  have e : (w1.alloc (.cells #[.bool false, .int .i64 0, .pointer none, .pointer none, .int .i64 0] 47)).heap.size = w1.heap.size + 1 := by simp
  rw [e] at h2
  refine ⟨_, _, _, _, _, _, Srt.nil, Nat.le_refl _, Srt.nil, Nat.le_refl _, h1, h2, Int.le_refl _, Int.le_refl _, ?_, ?_, Owns.nil _ _ _ _, fun b hb => by simp [Value.ownBlock] at hb, fun b hb => ?_⟩
  · rintro x rfl
    exact ⟨by omega, by omega, by simp [Value.ownBlock]⟩
  · rintro x rfl
    exact ⟨by omega, by simp [Value.ownBlock]⟩
  · simp; omega

set_option maxHeartbeats 8000000 in
theorem triePlays_in (W : World) (v : Value) (ls : List Actn) (R : Rd actEn 5 W v ls) (hok : ∀ x ∈ ls, Actn.fit x) (a : Ad) (ha : a.ok) (p : Pf) (hp : p.fit) (low high : Int) (h100 : ls.length ≤ 100) :
    Calls Try.prog 8 #[v, .agg #[.int .u64 (a.1 : Int), .int .u64 (a.2 : Int)], .agg #[.int .u64 (p.1.1 : Int), .int .u64 (p.1.2 : Int), .int .i64 p.2], .int .i64 low, .int .i64 high] W fun e W' => e = .returned (.bool true) ∧ Below W.heap.size W W' := by
  have hgr := guard_rt
  have HR := hid fun k x (h : ls[k]? = some x) => R.get actEn_len (by decide) h
  have HOK := hid fun k x (h : ls[k]? = some x) => hok x (List.mem_of_getElem? h)
  have HA := hid ha
  have HPo := hid hp
  obtain ⟨A, cap, rfl, hl, hc⟩ := R.form
  obtain ⟨L, hL⟩ : ∃ L, ls.length = L := ⟨_, rfl⟩
  have HL := hid hL
  unfold maxLen at hc
  rw [hL] at h100 hl ⊢
  have d1 : decide ((100 : Int) < (L : Int)) = false := decide_eq_false (by omega)
  clear R hL ha hp hok
  obtain ⟨x, y⟩ := a
  obtain ⟨⟨z, t⟩, i⟩ := p
  go_enter Try.func8, Try.ntmps8
  go_wp2_with fail
  refine (trie_alive _).mono ?_
  rintro e w1 ⟨rfl, hb⟩
  have hB := hid (Below.trans (b := _) (((Below.refl W.heap.size W).alloc (Nat.le_refl _) (.cells #[.int .u64 (x : Int), .int .u64 (y : Int)] 24)).alloc (by simp) (.cells #[.int .u64 (z : Int), .int .u64 (t : Int), .int .i64 i] 26)) (hb.mono (by simp; omega)))
  have hX := hid (((Blk.new_at W #[.int .u64 (x : Int), .int .u64 (y : Int)] 24 W.heap.size rfl).alloc (.cells #[.int .u64 (z : Int), .int .u64 (t : Int), .int .i64 i] 26)).below' hb)
  have hY := hid ((Blk.new_at (W.alloc (.cells #[.int .u64 (x : Int), .int .u64 (y : Int)] 24)) #[.int .u64 (z : Int), .int .u64 (t : Int), .int .i64 i] 26 (W.heap.size + 1) (by simp)).below' hb)
  have hlt1 : W.heap.size + 1 < w1.heap.size := hY.out.lt
  clear hb
  go_wp2_with fail
  go_loopw [14, 15] (fun vn i' wr => PlayLoop W w1.heap.size (w1.heap.size + 1) L (x, y) ((z, t), i) vn i' wr) (fun _ i' _ => L - (intOf i').toNat)
  case atStart =>
    exact ⟨0, [], Nat.zero_le _, rfl, play_start w1 _ (by omega), (hX.out.alloc _).alloc _, (hY.out.alloc _).alloc _, (hB.out.alloc hB.out.size _).alloc (hB.out.alloc hB.out.size _).size _⟩
  case round =>
    clear hX hY hB
    obtain ⟨k, now, hk, rfl, hP, hX, hY, hB⟩ := hrel
    have HP := hid hP
    have HX := hid hX
    have HY := hid hY
    have HB := hid hB
    obtain ⟨A', cap', rfl, hl', hc'⟩ := hP.rd.form
    unfold maxLen at hc'
    have hs := hP.srt
    have HS := hid hs.1
    have hnl : now.length ≤ k := hs.2.1
    by_cases hlt : k < L
    · have hget : ls[k]? = some (ls[k]'(by rw [HL.out]; exact hlt)) := List.getElem?_eq_getElem _
      generalize ls[k]'_ = r at hget
      have hfit := hid (HOK.out k r hget)
      obtain ⟨bq, oq, ca, hv2, _, _, hbl2, hc2⟩ := HR.out k r hget
      injection hv2 with hA2 hx2 hca
      subst hA2 hca
      clear hx2
      have HC := hid fun (w' : World) (hb : Below W.heap.size W w') j u (hu : (actEn r)[j]? = some u) => (hb.cell (p := ⟨bq, oq + k * 5 + j, none⟩) hbl2).trans (hc2 j u hu)
      obtain ⟨dl, ⟨⟨rx, ry⟩, ri⟩, rh⟩ := r
      have y1 : wr.cell? ⟨bq, oq + k * 5 + 1, none⟩ = some (.int .u64 (rx : Int)) := HC.out wr HB.out 1 _ rfl
      have y2 : wr.cell? ⟨bq, oq + k * 5 + 1 + 1, none⟩ = some (.int .u64 (ry : Int)) := HC.out wr HB.out 2 _ rfl
      have y3 : wr.cell? ⟨bq, oq + k * 5 + 1 + 2, none⟩ = some (.int .i64 ri) := HC.out wr HB.out 3 _ rfl
      have HP1 := hid ((HP.out.more (.cells #[.int .u64 (rx : Int), .int .u64 (ry : Int), .int .i64 ri] 26)))
      have BX1 := hid (Blk.new_at wr #[.int .u64 (rx : Int), .int .u64 (ry : Int), .int .i64 ri] 26 wr.heap.size rfl)
      have HX1 := hid (HX.out.alloc (.cells #[.int .u64 (rx : Int), .int .u64 (ry : Int), .int .i64 ri] 26))
      have HY1 := hid (HY.out.alloc (.cells #[.int .u64 (rx : Int), .int .u64 (ry : Int), .int .i64 ri] 26))
      have HB1 := hid (HB.out.alloc HB.out.size (.cells #[.int .u64 (rx : Int), .int .u64 (ry : Int), .int .i64 ri] 26))
      have hlw : W.heap.size + 1 < wr.heap.size := HY.out.lt
      clear hc2 hget hP hX hY hB hs
      go_wp2_with fail
      refine (HP1.out.putO (by omega) ((rx, ry), ri) hfit.out.1 (k : Int)).mono ?_
      rintro _ w2 ⟨⟨pu, pf, rfl⟩, hP2, hC2⟩
      have HP2 := hid hP2
      have BX2 := hid (BX1.out.chg hC2 (fun h => h (.inr rfl)))
      have HX2 := hid (HX1.out.chg hC2 (fun h => h (.inl (by omega))))
      have HY2 := hid (HY1.out.chg hC2 (fun h => h (.inl (by omega))))
      have HB2 := hid (HB1.out.trans (hC2.below HB1.out.size (fun j hj h => h (.inl (by omega)))))
      have x0 := BX2.out.cellv (i := 0) rfl
      have x1 := BX2.out.cellv (i := 1) rfl
      have x2 := BX2.out.cellv (i := 2) rfl
      clear hP2 hC2 HP1 BX1 HX1 HY1 HB1 HP HX HY HB y1 y2 y3
      go_wp2_with fail
      refine (ref_find w2 _ now HP2.out.rd ((rx, ry), ri)).mono ?_
      rintro _ w3 ⟨rfl, hb3⟩
      have HP3 := hid (HP2.out.below hb3)
      have BX3 := hid (BX2.out.below' hb3)
      have HX3 := hid (HX2.out.below' hb3)
      have HY3 := hid (HY2.out.below' hb3)
      have HB3 := hid (held_next HB2.out hb3)
      clear hb3 HP2 BX2 HX2 HY2 HB2 x0 x1 x2
      have x0 := BX3.out.cellv (i := 0) rfl
      have x1 := BX3.out.cellv (i := 1) rfl
      have x2 := BX3.out.cellv (i := 2) rfl
      have y0 : w3.cell? ⟨bq, oq + k * 5, none⟩ = some (.bool dl) := HC.out w3 HB3.out 0 _ rfl
      have y4 : w3.cell? ⟨bq, oq + k * 5 + 4, none⟩ = some (.int .i64 rh) := HC.out w3 HB3.out 4 _ rfl
      rcases find_parts HS.out ((rx, ry), ri) with ⟨e1, e2⟩ | ⟨j, u, e1, hj, e2⟩
      · rw [e1]
        have HG := hid e2
        clear e1 e2
        cases dl
        · have cD := hid ((HP3.out.below ((Below.refl w3.heap.size w3).drew)).put (by omega) (by omega) ((rx, ry), ri) hfit.out.1 rh)
          rw [HG.out] at cD
          obtain ⟨br, hbr⟩ : ∃ br : Bool, br = decide (Pf.right ((rx, ry), ri)) := ⟨_, rfl⟩
          have cR := hid fun w => ref_right (rx, ry) hfit.out.1 ri br hbr w
          have HBR := hid hbr
          clear hbr
          go_wp2_with fail
          go_region_held3 (fun w' => w'.cell? ⟨wr.heap.size, 0, none⟩ = some (.int .u64 (rx : Int)) ∧ w'.cell? ⟨wr.heap.size, 1, none⟩ = some (.int .u64 (ry : Int)) ∧ w'.cell? ⟨wr.heap.size, 2, none⟩ = some (.int .i64 ri) ∧ w'.cell? ⟨bq, oq + k * 5 + 4, none⟩ = some (.int .i64 rh)) (first | go_keep | (refine ⟨?_, ?_, ?_, ?_⟩ <;> assumption))
            (((with_reducible refine cD.out.mono ?_)
              rintro _ w4 ⟨rfl, hP4, hC4⟩
              have hC4' : Chg _ w3 w4 := ((Chg.refl _ w3).drew).trans' hC4
              have HP4 := hid hP4
              have BX4 := hid (BX3.out.chg hC4' (fun h => h (.inr rfl)))
              have HX4 := hid (HX3.out.chg hC4' (fun h => h (.inl (by omega))))
              have HY4 := hid (HY3.out.chg hC4' (fun h => h (.inl (by omega))))
              have HB4 := hid (HB3.out.trans (hC4'.below HB3.out.size (fun j hj h => h (.inl (by omega)))))
              have x0 := BX4.out.cellv (i := 0) rfl
              have x1 := BX4.out.cellv (i := 1) rfl
              have x2 := BX4.out.cellv (i := 2) rfl
              have y4 : w4.cell? ⟨bq, oq + k * 5 + 4, none⟩ = some (.int .i64 rh) := HC.out w4 HB4.out 4 _ rfl
              clear hP4 hC4 hC4'))
          try simp only [Option.getD_none, Option.isSome_none, Option.getD_some, Option.isSome_some]
          clear HP3 BX3 HX3 HY3 HB3 cD
          go_wp2_with fail
          refine (cR.out _).mono ?_
          rintro _ w4r ⟨rfl, hb4⟩
          have HP4r := hid (HP4.out.below hb4)
          have BX4r := hid (BX4.out.below' hb4)
          have HX4r := hid (HX4.out.below' hb4)
          have HY4r := hid (HY4.out.below' hb4)
          have HB4r := hid (held_next HB4.out hb4)
          clear hb4 HP4 BX4 HX4 HY4 HB4 x0 x1 x2 cR
          cases br
          · have hr : ¬ Pf.right ((rx, ry), ri) := of_decide_eq_false HBR.out.symm
            have hPL : putL now ((rx, ry), ri) rh = now := if_neg hr
            have HP5 := hid (show Play _ _ _ _ now now _ w4r by have h1 := HP4r.out; rw [hPL] at h1; exact h1)
            have HG5 := hid (show getV (mapOf now) ((rx, ry), ri) = none from get_no hr)
            have BX5 := BX4r
            have HX5 := HX4r
            have HY5 := HY4r
            have HB5 := HB4r
            clear hr hPL HP4r BX4r HX4r HY4r HB4r HG
            skip
            have x0 := BX5.out.cellv (i := 0) rfl
            have x1 := BX5.out.cellv (i := 1) rfl
            have x2 := BX5.out.cellv (i := 2) rfl
            go_wp2_with fail
            refine (ref_find w4r _ now HP5.out.rd ((rx, ry), ri)).mono ?_
            rintro _ w6 ⟨rfl, hb6⟩
            rw [find_no HP5.out.srt.1 HG5.out]
            have HP6 := hid (HP5.out.below hb6)
            have BX6 := hid (BX5.out.below' hb6)
            have HX6 := hid (HX5.out.below' hb6)
            have HY6 := hid (HY5.out.below' hb6)
            have HB6 := hid (held_next HB5.out hb6)
            clear hb6 HP5 BX5 HX5 HY5 HB5 x0 x1 x2
            have x0 := BX6.out.cellv (i := 0) rfl
            have x1 := BX6.out.cellv (i := 1) rfl
            have x2 := BX6.out.cellv (i := 2) rfl
            go_wp2_with fail
            obtain ⟨F6, N6, ht6⟩ := HP6.out.trie
            have cG := hid (trie_get ht6 ((rx, ry), ri) hfit.out.1)
            rw [HG5.out] at cG
            clear ht6
            refine cG.out.mono ?_
            rintro _ w7 ⟨rfl, hb7⟩
            try simp only [Option.getD_none, Option.isSome_none, Option.getD_some, Option.isSome_some]
            have HP7 := hid (HP6.out.below hb7)
            have HX7 := hid (HX6.out.below' hb7)
            have HY7 := hid (HY6.out.below' hb7)
            have HB7 := hid (held_next HB6.out hb7)
            clear hb7 HP6 BX6 HX6 HY6 HB6 x0 x1 x2 cG
            go_wp2_with fail
            obtain ⟨F7, N7, ht7⟩ := HP7.out.trie
            have cL := hid (trie_len ht7)
            clear ht7
            refine cL.out.mono ?_
            rintro _ _ ⟨rfl, rfl⟩
            clear cL
            go_wp2_with fail
            go_roundw
            case rel => exact ⟨k + 1, now, by omega, by go_num, HP7.out.less (fun z hz => .inl hz), HX7.out, HY7.out, HB7.out⟩
            case measure => simp [intOf]; omega

          · have hr : Pf.right ((rx, ry), ri) := of_decide_eq_true HBR.out.symm
            have hPL : putL now ((rx, ry), ri) rh = intoL now (((rx, ry), ri), rh) := if_pos hr
            have HP4s := hid (show Play _ _ _ _ (intoL now (((rx, ry), ri), rh)) now _ w4r by have h1 := HP4r.out; rw [hPL] at h1; exact h1)
            have x0 := BX4r.out.cellv (i := 0) rfl
            have x1 := BX4r.out.cellv (i := 1) rfl
            have x2 := BX4r.out.cellv (i := 2) rfl
            have y4 : w4r.cell? ⟨bq, oq + k * 5 + 4, none⟩ = some (.int .i64 rh) := HC.out w4r HB4r.out 4 _ rfl
            have cI := hid ((HP4s.out.below ((Below.refl w4r.heap.size w4r).drew)).into (by omega) (by omega) ((rx, ry), ri) hfit.out.1 hr rh)
            have HG5 := hid (HS.out.get_into rh hfit.out.1 hr)
            generalize intoL now (((rx, ry), ri), rh) = now5 at cI HG5
            clear hr hPL HP4r HP4s HG
            go_wp2_with fail
            refine wp_region_tail 8 (by kernel_rfl) (by kernel_rfl) ?_
            simp only [List.take_succ_cons, List.take_zero, List.drop_succ_cons, List.drop_zero]
            repeat still_step
            refine wpStill_nil ?_
            go_wp2_with fail
            refine cI.out.mono ?_
            rintro _ w5 ⟨v5, rfl, hP5, hb5'⟩
            have hb5 : Below w4r.heap.size w4r w5 := ((Below.refl w4r.heap.size w4r).drew).trans (hb5'.mono (Nat.le_refl _))
            have HP5 := hid hP5
            have BX5 := hid (BX4r.out.below' hb5)
            have HX5 := hid (HX4r.out.below' hb5)
            have HY5 := hid (HY4r.out.below' hb5)
            have HB5 := hid (held_next HB4r.out hb5)
            clear hP5 hb5 hb5' BX4r HX4r HY4r HB4r x0 x1 x2 y4 cI
            obtain ⟨A5, cap5, rfl, hl5, hc5⟩ := HP5.out.rd.form
            unfold maxLen at hc5
            have x0 := BX5.out.cellv (i := 0) rfl
            have x1 := BX5.out.cellv (i := 1) rfl
            have x2 := BX5.out.cellv (i := 2) rfl
            go_wp2_with fail
            refine (ref_find w5 _ now5 HP5.out.rd ((rx, ry), ri)).mono ?_
            rintro _ w6 ⟨rfl, hb6⟩
            obtain ⟨j5, hf5, hj5⟩ := find_yes HP5.out.srt.1 HG5.out
            rw [hf5]
            have HJ5 := hid hj5
            clear hf5 hj5
            have HP6 := hid (HP5.out.below hb6)
            have BX6 := hid (BX5.out.below' hb6)
            have HX6 := hid (HX5.out.below' hb6)
            have HY6 := hid (HY5.out.below' hb6)
            have HB6 := hid (held_next HB5.out hb6)
            clear hb6 HP5 BX5 HX5 HY5 HB5 x0 x1 x2
            have x0 := BX6.out.cellv (i := 0) rfl
            have x1 := BX6.out.cellv (i := 1) rfl
            have x2 := BX6.out.cellv (i := 2) rfl
            go_wp2_with fail
            obtain ⟨F6, N6, ht6⟩ := HP6.out.trie
            have cG := hid (trie_get ht6 ((rx, ry), ri) hfit.out.1)
            rw [HG5.out] at cG
            clear ht6
            refine cG.out.mono ?_
            rintro _ w7 ⟨rfl, hb7⟩
            try simp only [Option.getD_none, Option.isSome_none, Option.getD_some, Option.isSome_some]
            have HP7 := hid (HP6.out.below hb7)
            have HX7 := hid (HX6.out.below' hb7)
            have HY7 := hid (HY6.out.below' hb7)
            have HB7 := hid (held_next HB6.out hb7)
            clear hb7 HP6 BX6 HX6 HY6 HB6 x0 x1 x2 cG
            obtain ⟨b5, o5, c5, hv5, _, _, la5, sa5⟩ := HP7.out.rd.get rtEn_length (by decide) HJ5.out
            injection hv5 with hA5 _ hcb5
            subst hA5 hcb5
            have hj5n : (j5 : Int) < (now5.length : Int) := by have := (List.getElem?_eq_some_iff.1 HJ5.out).1; omega
            have k3 : w7.cell? ⟨b5, o5 + j5 * 4 + 3, none⟩ = some (.int .i64 rh) := sa5 3 _ rfl
            clear sa5 la5 HJ5
            go_wp2_with fail
            obtain ⟨F7, N7, ht7⟩ := HP7.out.trie
            have cL := hid (trie_len ht7)
            clear ht7
            refine cL.out.mono ?_
            rintro _ _ ⟨rfl, rfl⟩
            clear cL
            go_wp2_with fail
            go_roundw
            case rel => exact ⟨k + 1, now5, by omega, by go_num, HP7.out.less (fun z hz => .inl hz), HX7.out, HY7.out, HB7.out⟩
            case measure => simp [intOf]; omega


        · have cD := hid (HP3.out.del (by omega) ((rx, ry), ri) hfit.out.1)
          rw [HG.out] at cD
          go_wp2_with fail
          refine cD.out.mono ?_
          rintro _ w4 ⟨rfl, hP4, hC4⟩
          have HP4 := hid hP4
          have BX4 := hid (BX3.out.chg hC4 (fun h => h (.inr rfl)))
          have HX4 := hid (HX3.out.chg hC4 (fun h => h (.inl (by omega))))
          have HY4 := hid (HY3.out.chg hC4 (fun h => h (.inl (by omega))))
          have HB4 := hid (HB3.out.trans (hC4.below HB3.out.size (fun j hj h => h (.inl (by omega)))))
          clear hP4 hC4 HP3 BX3 HX3 HY3 HB3 x0 x1 x2 y0 y4 cD
          have x0 := BX4.out.cellv (i := 0) rfl
          have x1 := BX4.out.cellv (i := 1) rfl
          have x2 := BX4.out.cellv (i := 2) rfl
          try simp only [Option.getD_none, Option.isSome_none, Option.getD_some, Option.isSome_some]
          go_wp2_with fail
          refine (HP4.out.without (by omega) ((rx, ry), ri)).mono ?_
          rintro _ w5 ⟨v5, rfl, hP5, hb5⟩
          have HG5 := hid (HS.out.get_without ((rx, ry), ri))
          generalize withoutL now ((rx, ry), ri) = now5 at hP5 HG5
          have HP5 := hid hP5
          have BX5 := hid (BX4.out.below' hb5)
          have HX5 := hid (HX4.out.below' hb5)
          have HY5 := hid (HY4.out.below' hb5)
          have HB5 := hid (held_next HB4.out hb5)
          obtain ⟨A5, cap5, rfl, hl5, hc5⟩ := HP5.out.rd.form
          unfold maxLen at hc5
          clear hP5 hb5 HP4 BX4 HX4 HY4 HB4 x0 x1 x2 HG
          have x0 := BX5.out.cellv (i := 0) rfl
          have x1 := BX5.out.cellv (i := 1) rfl
          have x2 := BX5.out.cellv (i := 2) rfl
          go_wp2_with fail
          refine (ref_find w5 _ now5 HP5.out.rd ((rx, ry), ri)).mono ?_
          rintro _ w6 ⟨rfl, hb6⟩
          rw [find_no HP5.out.srt.1 HG5.out]
          have HP6 := hid (HP5.out.below hb6)
          have BX6 := hid (BX5.out.below' hb6)
          have HX6 := hid (HX5.out.below' hb6)
          have HY6 := hid (HY5.out.below' hb6)
          have HB6 := hid (held_next HB5.out hb6)
          clear hb6 HP5 BX5 HX5 HY5 HB5 x0 x1 x2
          have x0 := BX6.out.cellv (i := 0) rfl
          have x1 := BX6.out.cellv (i := 1) rfl
          have x2 := BX6.out.cellv (i := 2) rfl
          go_wp2_with fail
          obtain ⟨F6, N6, ht6⟩ := HP6.out.trie
          have cG := hid (trie_get ht6 ((rx, ry), ri) hfit.out.1)
          rw [HG5.out] at cG
          clear ht6
          refine cG.out.mono ?_
          rintro _ w7 ⟨rfl, hb7⟩
          try simp only [Option.getD_none, Option.isSome_none, Option.getD_some, Option.isSome_some]
          have HP7 := hid (HP6.out.below hb7)
          have HX7 := hid (HX6.out.below' hb7)
          have HY7 := hid (HY6.out.below' hb7)
          have HB7 := hid (held_next HB6.out hb7)
          clear hb7 HP6 BX6 HX6 HY6 HB6 x0 x1 x2 cG
          go_wp2_with fail
          obtain ⟨F7, N7, ht7⟩ := HP7.out.trie
          have cL := hid (trie_len ht7)
          clear ht7
          refine cL.out.mono ?_
          rintro _ _ ⟨rfl, rfl⟩
          clear cL
          go_wp2_with fail
          go_roundw
          case rel => exact ⟨k + 1, now5, by omega, by go_num, HP7.out.less (fun z hz => .inl hz), HX7.out, HY7.out, HB7.out⟩
          case measure => simp [intOf]; omega

      · rw [e1]
        have HG := hid e2
        obtain ⟨ba, oa, cb, hv, _, _, la, sa⟩ := HP3.out.rd.get rtEn_length (by decide) hj
        injection hv with hA3 _ hcb
        subst hA3 hcb
        have hjn : (j : Int) < (now.length : Int) := by have := (List.getElem?_eq_some_iff.1 hj).1; omega
        have j3 : w3.cell? ⟨ba, oa + j * 4 + 3, none⟩ = some (.int .i64 u) := sa 3 _ rfl
        clear e1 e2 sa hj
        cases dl
        · have cD := hid ((HP3.out.below ((Below.refl w3.heap.size w3).drew)).put (by omega) (by omega) ((rx, ry), ri) hfit.out.1 rh)
          rw [HG.out] at cD
          obtain ⟨br, hbr⟩ : ∃ br : Bool, br = decide (Pf.right ((rx, ry), ri)) := ⟨_, rfl⟩
          have cR := hid fun w => ref_right (rx, ry) hfit.out.1 ri br hbr w
          have HBR := hid hbr
          clear hbr
          go_wp2_with fail
          go_region_held3 (fun w' => w'.cell? ⟨wr.heap.size, 0, none⟩ = some (.int .u64 (rx : Int)) ∧ w'.cell? ⟨wr.heap.size, 1, none⟩ = some (.int .u64 (ry : Int)) ∧ w'.cell? ⟨wr.heap.size, 2, none⟩ = some (.int .i64 ri) ∧ w'.cell? ⟨bq, oq + k * 5 + 4, none⟩ = some (.int .i64 rh)) (first | go_keep | (refine ⟨?_, ?_, ?_, ?_⟩ <;> assumption))
            (((with_reducible refine cD.out.mono ?_)
              rintro _ w4 ⟨rfl, hP4, hC4⟩
              have hC4' : Chg _ w3 w4 := ((Chg.refl _ w3).drew).trans' hC4
              have HP4 := hid hP4
              have BX4 := hid (BX3.out.chg hC4' (fun h => h (.inr rfl)))
              have HX4 := hid (HX3.out.chg hC4' (fun h => h (.inl (by omega))))
              have HY4 := hid (HY3.out.chg hC4' (fun h => h (.inl (by omega))))
              have HB4 := hid (HB3.out.trans (hC4'.below HB3.out.size (fun j hj h => h (.inl (by omega)))))
              have x0 := BX4.out.cellv (i := 0) rfl
              have x1 := BX4.out.cellv (i := 1) rfl
              have x2 := BX4.out.cellv (i := 2) rfl
              have y4 : w4.cell? ⟨bq, oq + k * 5 + 4, none⟩ = some (.int .i64 rh) := HC.out w4 HB4.out 4 _ rfl
              clear hP4 hC4 hC4'))
          try simp only [Option.getD_none, Option.isSome_none, Option.getD_some, Option.isSome_some]
          clear HP3 BX3 HX3 HY3 HB3 cD
          go_wp2_with fail
          refine (cR.out _).mono ?_
          rintro _ w4r ⟨rfl, hb4⟩
          have HP4r := hid (HP4.out.below hb4)
          have BX4r := hid (BX4.out.below' hb4)
          have HX4r := hid (HX4.out.below' hb4)
          have HY4r := hid (HY4.out.below' hb4)
          have HB4r := hid (held_next HB4.out hb4)
          clear hb4 HP4 BX4 HX4 HY4 HB4 x0 x1 x2 cR
          cases br
          · have hr : ¬ Pf.right ((rx, ry), ri) := of_decide_eq_false HBR.out.symm
            have hPL : putL now ((rx, ry), ri) rh = now := if_neg hr
            have HP5 := hid (show Play _ _ _ _ now now _ w4r by have h1 := HP4r.out; rw [hPL] at h1; exact h1)
            have HG5 := hid (show getV (mapOf now) ((rx, ry), ri) = none from get_no hr)
            have BX5 := BX4r
            have HX5 := HX4r
            have HY5 := HY4r
            have HB5 := HB4r
            clear hr hPL HP4r BX4r HX4r HY4r HB4r HG
            skip
            have x0 := BX5.out.cellv (i := 0) rfl
            have x1 := BX5.out.cellv (i := 1) rfl
            have x2 := BX5.out.cellv (i := 2) rfl
            go_wp2_with fail
            refine (ref_find w4r _ now HP5.out.rd ((rx, ry), ri)).mono ?_
            rintro _ w6 ⟨rfl, hb6⟩
            rw [find_no HP5.out.srt.1 HG5.out]
            have HP6 := hid (HP5.out.below hb6)
            have BX6 := hid (BX5.out.below' hb6)
            have HX6 := hid (HX5.out.below' hb6)
            have HY6 := hid (HY5.out.below' hb6)
            have HB6 := hid (held_next HB5.out hb6)
            clear hb6 HP5 BX5 HX5 HY5 HB5 x0 x1 x2
            have x0 := BX6.out.cellv (i := 0) rfl
            have x1 := BX6.out.cellv (i := 1) rfl
            have x2 := BX6.out.cellv (i := 2) rfl
            go_wp2_with fail
            obtain ⟨F6, N6, ht6⟩ := HP6.out.trie
            have cG := hid (trie_get ht6 ((rx, ry), ri) hfit.out.1)
            rw [HG5.out] at cG
            clear ht6
            refine cG.out.mono ?_
            rintro _ w7 ⟨rfl, hb7⟩
            try simp only [Option.getD_none, Option.isSome_none, Option.getD_some, Option.isSome_some]
            have HP7 := hid (HP6.out.below hb7)
            have HX7 := hid (HX6.out.below' hb7)
            have HY7 := hid (HY6.out.below' hb7)
            have HB7 := hid (held_next HB6.out hb7)
            clear hb7 HP6 BX6 HX6 HY6 HB6 x0 x1 x2 cG
            go_wp2_with fail
            obtain ⟨F7, N7, ht7⟩ := HP7.out.trie
            have cL := hid (trie_len ht7)
            clear ht7
            refine cL.out.mono ?_
            rintro _ _ ⟨rfl, rfl⟩
            clear cL
            go_wp2_with fail
            go_roundw
            case rel => exact ⟨k + 1, now, by omega, by go_num, HP7.out.less (fun z hz => .inl hz), HX7.out, HY7.out, HB7.out⟩
            case measure => simp [intOf]; omega

          · have hr : Pf.right ((rx, ry), ri) := of_decide_eq_true HBR.out.symm
            have hPL : putL now ((rx, ry), ri) rh = intoL now (((rx, ry), ri), rh) := if_pos hr
            have HP4s := hid (show Play _ _ _ _ (intoL now (((rx, ry), ri), rh)) now _ w4r by have h1 := HP4r.out; rw [hPL] at h1; exact h1)
            have x0 := BX4r.out.cellv (i := 0) rfl
            have x1 := BX4r.out.cellv (i := 1) rfl
            have x2 := BX4r.out.cellv (i := 2) rfl
            have y4 : w4r.cell? ⟨bq, oq + k * 5 + 4, none⟩ = some (.int .i64 rh) := HC.out w4r HB4r.out 4 _ rfl
            have cI := hid ((HP4s.out.below ((Below.refl w4r.heap.size w4r).drew)).into (by omega) (by omega) ((rx, ry), ri) hfit.out.1 hr rh)
            have HG5 := hid (HS.out.get_into rh hfit.out.1 hr)
            generalize intoL now (((rx, ry), ri), rh) = now5 at cI HG5
            clear hr hPL HP4r HP4s HG
            go_wp2_with fail
            refine wp_region_tail 8 (by kernel_rfl) (by kernel_rfl) ?_
            simp only [List.take_succ_cons, List.take_zero, List.drop_succ_cons, List.drop_zero]
            repeat still_step
            refine wpStill_nil ?_
            go_wp2_with fail
            refine cI.out.mono ?_
            rintro _ w5 ⟨v5, rfl, hP5, hb5'⟩
            have hb5 : Below w4r.heap.size w4r w5 := ((Below.refl w4r.heap.size w4r).drew).trans (hb5'.mono (Nat.le_refl _))
            have HP5 := hid hP5
            have BX5 := hid (BX4r.out.below' hb5)
            have HX5 := hid (HX4r.out.below' hb5)
            have HY5 := hid (HY4r.out.below' hb5)
            have HB5 := hid (held_next HB4r.out hb5)
            clear hP5 hb5 hb5' BX4r HX4r HY4r HB4r x0 x1 x2 y4 cI
            obtain ⟨A5, cap5, rfl, hl5, hc5⟩ := HP5.out.rd.form
            unfold maxLen at hc5
            have x0 := BX5.out.cellv (i := 0) rfl
            have x1 := BX5.out.cellv (i := 1) rfl
            have x2 := BX5.out.cellv (i := 2) rfl
            go_wp2_with fail
            refine (ref_find w5 _ now5 HP5.out.rd ((rx, ry), ri)).mono ?_
            rintro _ w6 ⟨rfl, hb6⟩
            obtain ⟨j5, hf5, hj5⟩ := find_yes HP5.out.srt.1 HG5.out
            rw [hf5]
            have HJ5 := hid hj5
            clear hf5 hj5
            have HP6 := hid (HP5.out.below hb6)
            have BX6 := hid (BX5.out.below' hb6)
            have HX6 := hid (HX5.out.below' hb6)
            have HY6 := hid (HY5.out.below' hb6)
            have HB6 := hid (held_next HB5.out hb6)
            clear hb6 HP5 BX5 HX5 HY5 HB5 x0 x1 x2
            have x0 := BX6.out.cellv (i := 0) rfl
            have x1 := BX6.out.cellv (i := 1) rfl
            have x2 := BX6.out.cellv (i := 2) rfl
            go_wp2_with fail
            obtain ⟨F6, N6, ht6⟩ := HP6.out.trie
            have cG := hid (trie_get ht6 ((rx, ry), ri) hfit.out.1)
            rw [HG5.out] at cG
            clear ht6
            refine cG.out.mono ?_
            rintro _ w7 ⟨rfl, hb7⟩
            try simp only [Option.getD_none, Option.isSome_none, Option.getD_some, Option.isSome_some]
            have HP7 := hid (HP6.out.below hb7)
            have HX7 := hid (HX6.out.below' hb7)
            have HY7 := hid (HY6.out.below' hb7)
            have HB7 := hid (held_next HB6.out hb7)
            clear hb7 HP6 BX6 HX6 HY6 HB6 x0 x1 x2 cG
            obtain ⟨b5, o5, c5, hv5, _, _, la5, sa5⟩ := HP7.out.rd.get rtEn_length (by decide) HJ5.out
            injection hv5 with hA5 _ hcb5
            subst hA5 hcb5
            have hj5n : (j5 : Int) < (now5.length : Int) := by have := (List.getElem?_eq_some_iff.1 HJ5.out).1; omega
            have k3 : w7.cell? ⟨b5, o5 + j5 * 4 + 3, none⟩ = some (.int .i64 rh) := sa5 3 _ rfl
            clear sa5 la5 HJ5
            go_wp2_with fail
            obtain ⟨F7, N7, ht7⟩ := HP7.out.trie
            have cL := hid (trie_len ht7)
            clear ht7
            refine cL.out.mono ?_
            rintro _ _ ⟨rfl, rfl⟩
            clear cL
            go_wp2_with fail
            go_roundw
            case rel => exact ⟨k + 1, now5, by omega, by go_num, HP7.out.less (fun z hz => .inl hz), HX7.out, HY7.out, HB7.out⟩
            case measure => simp [intOf]; omega


        · have cD := hid (HP3.out.del (by omega) ((rx, ry), ri) hfit.out.1)
          rw [HG.out] at cD
          go_wp2_with fail
          refine cD.out.mono ?_
          rintro _ w4 ⟨rfl, hP4, hC4⟩
          have HP4 := hid hP4
          have BX4 := hid (BX3.out.chg hC4 (fun h => h (.inr rfl)))
          have HX4 := hid (HX3.out.chg hC4 (fun h => h (.inl (by omega))))
          have HY4 := hid (HY3.out.chg hC4 (fun h => h (.inl (by omega))))
          have HB4 := hid (HB3.out.trans (hC4.below HB3.out.size (fun j hj h => h (.inl (by omega)))))
          clear hP4 hC4 HP3 BX3 HX3 HY3 HB3 x0 x1 x2 y0 y4 cD
          have x0 := BX4.out.cellv (i := 0) rfl
          have x1 := BX4.out.cellv (i := 1) rfl
          have x2 := BX4.out.cellv (i := 2) rfl
          try simp only [Option.getD_none, Option.isSome_none, Option.getD_some, Option.isSome_some]
          go_wp2_with fail
          refine (HP4.out.without (by omega) ((rx, ry), ri)).mono ?_
          rintro _ w5 ⟨v5, rfl, hP5, hb5⟩
          have HG5 := hid (HS.out.get_without ((rx, ry), ri))
          generalize withoutL now ((rx, ry), ri) = now5 at hP5 HG5
          have HP5 := hid hP5
          have BX5 := hid (BX4.out.below' hb5)
          have HX5 := hid (HX4.out.below' hb5)
          have HY5 := hid (HY4.out.below' hb5)
          have HB5 := hid (held_next HB4.out hb5)
          obtain ⟨A5, cap5, rfl, hl5, hc5⟩ := HP5.out.rd.form
          unfold maxLen at hc5
          clear hP5 hb5 HP4 BX4 HX4 HY4 HB4 x0 x1 x2 HG
          have x0 := BX5.out.cellv (i := 0) rfl
          have x1 := BX5.out.cellv (i := 1) rfl
          have x2 := BX5.out.cellv (i := 2) rfl
          go_wp2_with fail
          refine (ref_find w5 _ now5 HP5.out.rd ((rx, ry), ri)).mono ?_
          rintro _ w6 ⟨rfl, hb6⟩
          rw [find_no HP5.out.srt.1 HG5.out]
          have HP6 := hid (HP5.out.below hb6)
          have BX6 := hid (BX5.out.below' hb6)
          have HX6 := hid (HX5.out.below' hb6)
          have HY6 := hid (HY5.out.below' hb6)
          have HB6 := hid (held_next HB5.out hb6)
          clear hb6 HP5 BX5 HX5 HY5 HB5 x0 x1 x2
          have x0 := BX6.out.cellv (i := 0) rfl
          have x1 := BX6.out.cellv (i := 1) rfl
          have x2 := BX6.out.cellv (i := 2) rfl
          go_wp2_with fail
          obtain ⟨F6, N6, ht6⟩ := HP6.out.trie
          have cG := hid (trie_get ht6 ((rx, ry), ri) hfit.out.1)
          rw [HG5.out] at cG
          clear ht6
          refine cG.out.mono ?_
          rintro _ w7 ⟨rfl, hb7⟩
          try simp only [Option.getD_none, Option.isSome_none, Option.getD_some, Option.isSome_some]
          have HP7 := hid (HP6.out.below hb7)
          have HX7 := hid (HX6.out.below' hb7)
          have HY7 := hid (HY6.out.below' hb7)
          have HB7 := hid (held_next HB6.out hb7)
          clear hb7 HP6 BX6 HX6 HY6 HB6 x0 x1 x2 cG
          go_wp2_with fail
          obtain ⟨F7, N7, ht7⟩ := HP7.out.trie
          have cL := hid (trie_len ht7)
          clear ht7
          refine cL.out.mono ?_
          rintro _ _ ⟨rfl, rfl⟩
          clear cL
          go_wp2_with fail
          go_roundw
          case rel => exact ⟨k + 1, now5, by omega, by go_num, HP7.out.less (fun z hz => .inl hz), HX7.out, HY7.out, HB7.out⟩
          case measure => simp [intOf]; omega

    · have a0 := HX.out.cellv (i := 0) rfl
      have a1 := HX.out.cellv (i := 1) rfl
      have p0 := HY.out.cellv (i := 0) rfl
      have p1 := HY.out.cellv (i := 1) rfl
      have p2 := HY.out.cellv (i := 2) rfl
      obtain ⟨F, N, ht⟩ := HP.out.trie
      have cR := hid (trie_route ht HS.out _ HP.out.rd (x, y) HA.out ((z, t), i) HPo.out.1 low high)
      clear ht hP hX hY hB hs
      go_wp2_with fail
      refine cR.out.mono ?_
      rintro _ w2 ⟨rfl, hb2⟩
      have HB2 := hid (held_next HB.out hb2)
      clear hb2
      go_wp2_with fail
      go_ret
      exact ⟨rfl, HB2.out⟩

theorem triePlays_walk (W : World) (v : Value) (ls : List Actn) (R : Rd actEn 5 W v ls) (hok : ∀ x ∈ ls, Actn.fit x) (a : Ad) (ha : a.ok) (p : Pf) (hp : p.fit) (low : Int) (_ : (Lit.int .i64 low).wf = true) (high : Int) (_ : (Lit.int .i64 high).wf = true) :
    Calls Try.prog 8 #[v, .agg #[.int .u64 (a.1 : Int), .int .u64 (a.2 : Int)], .agg #[.int .u64 (p.1.1 : Int), .int .u64 (p.1.2 : Int), .int .i64 p.2], .int .i64 low, .int .i64 high] W fun e W' => e = .returned (.bool true) ∧ Below W.heap.size W W' := by
  by_cases h : ls.length ≤ 100
  · exact triePlays_in W v ls R hok a ha p hp low high h
  · obtain ⟨A, cap, rfl, h1, h2⟩ := R.form
    exact triePlays_out W A cap _ h1 h2 a p low high h

end Go.Proofs.Ytjhgmjfjlndomaa
