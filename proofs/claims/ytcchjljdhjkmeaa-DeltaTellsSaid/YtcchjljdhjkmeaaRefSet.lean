/-
  The contracts of the reference's Set and of cover.Hop. No condition but that there are no more than a thousand routes, and that words are words.
-/
import Derived.Test.YtcchjljdhjkmeaaCoverM
import Derived.Test.YtcchjljdhjkmeaaRefKeys
import Derived.Test.YtcchjljdhjkmeaaOrd
namespace Go.Proofs.Ytcchjljdhjkmeaa
open Go.RowKit
set_option linter.unusedVariables false
set_option linter.unusedSimpArgs false
set_option maxRecDepth 100000

theorem last_SL {T : List Rt} (h : T.Pairwise (fun x y => x.1.lt y.1)) (x : Rt) : IsLast T x ↔ x ∈ T := by
  constructor
  · rintro ⟨A, B, e, _⟩; rw [e]; simp
  · intro hx
    obtain ⟨A, B, e⟩ := List.append_of_mem hx
    refine ⟨A, B, e, fun y hy k => ?_⟩
    subst e
    have h2 := (List.pairwise_cons.1 (List.pairwise_append.1 h).2.1).1 y hy
    rw [k] at h2
    exact pf_lt_irrefl _ h2
theorem sorted_idem (l : List Rt) : sortedL (sortedL l) = sortedL l := by
  refine ord_unique (sorted_ord _) (sorted_ord l) fun x => ?_
  rw [sorted_has, last_SL (sorted_ord l)]
theorem ofM_sorted (l : List Rt) : ofM (sortedL l) = ofM l := by
  refine map_ext fun c k v => ?_
  rw [sorted_says (sortedL l) c k v, sorted_says l c k v, sorted_idem]
theorem hopV_sorted (l : List Rt) (k : Pf) (low : Int) : hopV (sortedL l) k low = atV (ofM l) k low := by unfold hopV atV; rw [ofM_sorted]
theorem rawKeys_no {A : List Rt} {low high : Int} (h : high ≤ low) : rawKeys A low high = [] := by
  unfold rawKeys
  have : A.filter (inLv low high) = [] := by
    rw [List.filter_eq_nil_iff]
    intro r _ k
    have := of_decide_eq_true k
    omega
  rw [this]; rfl

theorem OwnRts.chgB {w w' w'' : World} {l : List Rt} {v : Value} (h : OwnRts w l w' v) (k : Below w'.heap.size w' w'') : OwnRts w l w'' v := Owns.below h k
def RsRel (w : World) (l T : List Rt) (low high : Int) (v i : Value) (wr : World) : Prop :=
  ∃ j : Nat, j ≤ T.length ∧ i = .int .i64 j ∧ OwnRts w (sortedL ((rawKeys (T.take j) low high).map (atH l low))) wr v ∧ Below w.heap.size w wr
def RsIn (w wo : World) (l : List Rt) (R KS : List Pf) (low : Int) (v i : Value) (wr : World) : Prop :=
  ∃ t : Nat, t ≤ KS.length ∧ i = .int .i64 t ∧ OwnRts w (sortedL ((R ++ KS.take t).map (atH l low))) wr v ∧ Below wo.heap.size wo wr
set_option maxHeartbeats 4000000 in
theorem ref_set (w : World) (v : Value) (l : List Rt) (hR : Rd rtEn 4 w v l) (hok : ∀ r ∈ l, r.1.1.ok) (hlen : l.length ≤ 100) (low high : Int) (wh : -9223372036854775808 ≤ high ∧ high ≤ 9223372036854775807) :
    Calls Try.prog 31 #[v, .int .i64 low, .int .i64 high] w (RetRts w (setL l low high)) := by
  have c0 := hid (ref_sorted w v l hR (by omega))
  have HOK := hid (show ∀ r ∈ sortedL l, r.1.1.ok from fun r hr => hok r (sorted_mem hr))
  have HTL := hid (show (sortedL l).length ≤ 100 from by have := sorted_le l; omega)
  have HSET := hid (show setL l low high = sortedL ((rawKeys (sortedL l) low high).map (atH l low)) from rfl)
  have cHop := hid (fun (w' : World) (v' : Value) (h : Rd rtEn 4 w' v' (sortedL l)) (k : Pf) (hk : k.1.ok) => ref_hop w' v' (sortedL l) h (by have := HTL.out; omega) HOK.out k hk low)
  have HHV := hid (fun k => hopV_sorted l k low)
  generalize sortedL l = T at c0 HOK HTL HSET cHop HHV
  clear hR hok
  go_enter Try.func31, Try.ntmps31
  go_wp2_with fail
  refine c0.out.mono ?_
  rintro _ w1 ⟨vT, rfl, hOT, hb1⟩
  have HB1 := hid hb1
  have HRT := hid (show Rd rtEn 4 w1 vT T from hOT.rd)
  obtain ⟨At, ct, rfl⟩ := hOT.form
  obtain ⟨nT, hnT⟩ : ∃ n, T.length = n := ⟨_, rfl⟩
  rw [hnT] at HRT ⊢
  have HNT := hid hnT
  have hnT2 : nT ≤ 100 := by have := HTL.out; omega
  clear hOT hb1 c0 hnT
  by_cases hhl : low < high
  · go_wp2_with fail
    go_loopw [7, 8] (fun v i wr => RsRel w1 l T low high v i wr) (fun _ i _ => nT - (intOf i).toNat)
    case atStart => exact ⟨0, Nat.zero_le _, rfl, Owns.nil _ _ _ _, Below.refl _ _⟩
    case round =>
      obtain ⟨j, hj, rfl, hO, hB⟩ := hrel
      have HO := hid hO
      have HB := hid hB
      rw [HNT.out] at hj
      have HBW := hid (HB1.out.trans (hB.mono HB1.out.size))
      have HRTr := hid (HRT.out.below rtEn_length hB)
      clear hO hB
      by_cases hjn : j < nT
      · obtain ⟨x, hx⟩ : ∃ x, T[j]? = some x := ⟨_, List.getElem?_eq_getElem (by rw [HNT.out]; exact hjn)⟩
        obtain ⟨bx, ox, qx, hvx, _, _, lx, sx⟩ := HRTr.out.get rtEn_length (by decide) hx
        injection hvx with a1 a2 a3
        subst a1 a3
        have y0 : wr.cell? ⟨bx, ox + j * 4, none⟩ = some (.int .u64 (x.1.1.1 : Int)) := sx 0 _ rfl
        have y1 : wr.cell? ⟨bx, ox + j * 4 + 1, none⟩ = some (.int .u64 (x.1.1.2 : Int)) := sx 1 _ rfl
        have y2 : wr.cell? ⟨bx, ox + j * 4 + 2, none⟩ = some (.int .i64 x.1.2) := sx 2 _ rfl
        have HSN := hid (rawKeys_snoc hx low high)
        have hxok := hid (HOK.out x (List.mem_of_getElem? hx))
        have cK := hid (fun w => ref_keys x.1 hxok.out high wh w)
        have HKO := hid (fun k (h : k ∈ keysP x.1 high) => keysP_ok hxok.out h)
        have hkl := keysP_len x.1 high
        have hrl := rawKeys_len (T.take j) low high
        rw [List.length_take] at hrl
        have j0 : (0 : Int) ≤ (j : Int) := by omega
        have j1 : (j : Int) < (nT : Int) := by omega
        have c1 : (high : Int) > low := hhl
        have HJ := hid hjn
        clear a2 sx lx hx hjn
        by_cases hin : low < x.1.2 ∧ x.1.2 ≤ high
        · have e1 : inLv low high x = true := decide_eq_true hin
          rw [e1, if_pos rfl] at HSN
          generalize keysP x.1 high = KS at HSN cK hkl HKO
          have d1 : ¬ x.1.2 ≤ low := by omega
          have d2 : ¬ x.1.2 > high := by omega
          obtain ⟨⟨⟨x1, x2⟩, x3⟩, x4⟩ := x
          simp only at y0 y1 y2 d1 d2 cK
          clear e1 hin
          go_wp2_with fail
          refine (cK.out _).mono ?_
          rintro _ w4 ⟨v4, rfl, hO4, hb4⟩
          have HB4 := hid (held_next HB.out hb4)
          have HO4 := hid (OwnRts.chgB HO.out hb4)
          have HRK := hid (Rd.of_owns (l := KS) hO4 pfEn_length)
          clear hO4 hb4 cK y0 y1 y2
          obtain ⟨A4, c4, rfl, _⟩ := HRK.out.form
          obtain ⟨n4, hn4⟩ : ∃ n, KS.length = n := ⟨_, rfl⟩
          have HRK' := HRK.out
          rw [hn4] at HRK' hkl ⊢
          have HRK2 := hid HRK'
          have HN4 := hid hn4
          clear HRK HRK' hn4
          have hlenR : (rawKeys (T.take j) low high).length ≤ 25600 := by have := HNT.out; omega
          go_wp2_with fail
          go_loopw [7, 10] (fun v i wr => RsIn w1 w4 l (rawKeys (T.take j) low high) KS low v i wr) (fun _ i _ => n4 - (intOf i).toNat)
          case atStart => exact ⟨0, Nat.zero_le _, rfl, by rw [List.take_zero, List.append_nil]; exact HO4.out, Below.refl _ _⟩
          case round =>
            obtain ⟨t, ht, rfl, hOi, hBi⟩ := hrel
            have HOi := hid hOi
            have HBi := hid hBi
            have HBw := hid (HB4.out.trans (hBi.mono HB4.out.size))
            rw [HN4.out] at ht
            clear hOi hBi
            by_cases htn : t < n4
            · obtain ⟨k, hk⟩ : ∃ k, KS[t]? = some k := ⟨_, List.getElem?_eq_getElem (by rw [HN4.out]; exact htn)⟩
              have HRKr := hid (HRK2.out.below pfEn_length HBi.out)
              obtain ⟨bk, ok, qk, hvk, _, _, lk, sk⟩ := HRKr.out.get pfEn_length (by decide) hk
              injection hvk with b1 b2 b3
              subst b1 b3
              have HCK := hid (fun (w' : World) (h : Below wr.heap.size wr w') => (show w'.cell? ⟨bk, ok + t * 3, none⟩ = some (.int .u64 (k.1.1 : Int)) ∧ w'.cell? ⟨bk, ok + t * 3 + 1, none⟩ = some (.int .u64 (k.1.2 : Int)) ∧ w'.cell? ⟨bk, ok + t * 3 + 2, none⟩ = some (.int .i64 k.2) from
                ⟨(h.cell (p := ⟨bk, ok + t * 3, none⟩) lk).trans (sk 0 _ rfl), (h.cell (p := ⟨bk, ok + t * 3 + 1, none⟩) lk).trans (sk 1 _ rfl), (h.cell (p := ⟨bk, ok + t * 3 + 2, none⟩) lk).trans (sk 2 _ rfl)⟩))
              have HTK := hid (show sortedL ((rawKeys (T.take j) low high ++ KS.take (t + 1)).map (atH l low)) = intoL (sortedL ((rawKeys (T.take j) low high ++ KS.take t).map (atH l low))) (k, (atV (ofM l) k low).getD 0) from by
                obtain ⟨hk1, e⟩ := List.getElem?_eq_some_iff.1 hk
                rw [List.take_succ_eq_append_getElem hk1, e, ← List.append_assoc, List.map_append, List.map_cons, List.map_nil, sortedL_snoc]; rfl)
              have hko := hid (HKO.out k (List.mem_of_getElem? hk))
              have cH := hid (cHop.out wr _ (HRT.out.below rtEn_length HBw.out) k hko.out)
              unfold HopPost at cH
              rw [HHV.out k] at cH
              have hlo := sorted_le ((rawKeys (T.take j) low high ++ KS.take t).map (atH l low))
              rw [List.length_map, List.length_append, List.length_take] at hlo
              have cI := hid (fun (w' : World) (v' : Value) (h : OwnRts w1 (sortedL ((rawKeys (T.take j) low high ++ KS.take t).map (atH l low))) w' v') => ref_into w' v' _ h.rd (by omega) (k, (atV (ofM l) k low).getD 0))
              rw [← HTK.out] at cI
              obtain ⟨Ao, co, rfl⟩ := HOi.out.form
              generalize hno : (sortedL ((rawKeys (T.take j) low high ++ KS.take t).map (atH l low))).length = no at HOi
              have t0 : (0 : Int) ≤ (t : Int) := by omega
              have t1 : (t : Int) < (n4 : Int) := by omega
              have HTN := hid htn
              obtain ⟨p0, p1, p2⟩ := HCK.out wr (Below.refl _ _)
              generalize (atV (ofM l) k low).getD 0 = hop at cH cI
              generalize (atV (ofM l) k low).isSome = is at cH
              obtain ⟨⟨k1, k2⟩, k3⟩ := k
              simp only at p0 p1 p2 cH cI HCK
              clear b2 sk lk hk htn hlo HTK hno
              go_wp2_with fail
              refine cH.out.mono ?_
              rintro _ w6 ⟨rfl, hb6⟩
              have HB6 := hid (held_next HBi.out hb6)
              obtain ⟨q0, q1, q2⟩ := HCK.out w6 hb6
              have cI6 := hid (cI.out w6 _ (OwnRts.chgB HOi.out hb6))
              clear hb6 cH cI p0 p1 p2
              go_wp2_with fail
              refine cI6.out.mono ?_
              rintro _ w7 ⟨v7, rfl, hO7, hb7⟩
              have HB7 := hid (held_next HB6.out hb7)
              have HO7 := hid (hO7.lower (show w1.heap.size ≤ w6.heap.size from Nat.le_trans HB4.out.size HB6.out.size))
              clear hO7 hb7 cI6 q0 q1 q2
              go_wp2_with fail
              go_roundw
              case rel => exact ⟨t + 1, by have := HTN.out; have := HN4.out; omega, by go_num, HO7.out, HB7.out⟩
              case measure => have := HTN.out; simp [intOf]; omega
            · have hkk : KS.take t = KS := List.take_of_length_le (by rw [HN4.out]; omega)
              have HOF := hid (show OwnRts w1 (sortedL ((rawKeys (T.take (j + 1)) low high).map (atH l low))) wr _ from by have h := HOi.out; rw [hkk, ← HSN.out] at h; exact h)
              have c4 : ¬ (t : Int) < (n4 : Int) := by omega
              clear HOi
              go_wp2_with fail
              go_roundw
              case rel => exact ⟨j + 1, by have := HJ.out; have := HNT.out; omega, by go_num, HOF.out, HBw.out⟩
              case measure => have := HJ.out; simp [intOf]; omega
        · have e1 : inLv low high x = false := decide_eq_false hin
          rw [e1, if_neg (by decide), List.append_nil] at HSN
          have HOF := hid (show OwnRts w1 (sortedL ((rawKeys (T.take (j + 1)) low high).map (atH l low))) wr _ from by have h := HO.out; rw [← HSN.out] at h; exact h)
          obtain ⟨⟨⟨x1, x2⟩, x3⟩, x4⟩ := x
          simp only at y0 y1 y2 hin
          clear e1 cK hkl HO
          by_cases d1 : x3 ≤ low
          · clear hin
            go_wp2_with fail
            go_roundw
            case rel => exact ⟨j + 1, by have := HJ.out; have := HNT.out; omega, by go_num, HOF.out, HB.out⟩
            case measure => have := HJ.out; simp [intOf]; omega
          · have d2 : x3 > high := by omega
            clear hin
            go_wp2_with fail
            go_roundw
            case rel => exact ⟨j + 1, by have := HJ.out; have := HNT.out; omega, by go_num, HOF.out, HB.out⟩
            case measure => have := HJ.out; simp [intOf]; omega
      · have hjj : T.take j = T := List.take_of_length_le (by rw [HNT.out]; omega)
        have HF := hid (show OwnRts w (setL l low high) wr _ from by
          have h := HO.out
          rw [hjj, ← HSET.out] at h
          exact h.lower HB1.out.size)
        have c3 : ¬ (j : Int) < (nT : Int) := by omega
        clear HO
        go_wp2_with fail
        go_ret
        exact ⟨_, rfl, HF.out, HBW.out⟩
  · have HE := hid (show setL l low high = [] from by rw [HSET.out, rawKeys_no (by omega)]; rfl)
    have c1 : ¬ high > low := by omega
    go_wp2_with fail
    go_loopw [7, 8] (fun v i wr => v = .slice none 0 0 ∧ i = .int .i64 0 ∧ wr = w1) (fun _ _ _ => 0)
    case atStart => exact ⟨rfl, rfl, rfl⟩
    case round =>
      obtain ⟨rfl, rfl, rfl⟩ := hrel
      go_wp2_with fail
      all_goals
        go_ret
        exact ⟨_, rfl, by rw [HE.out]; exact Owns.nil _ _ _ _, HB1.out⟩


theorem cover_hop (w : World) (v : Value) (l : List Rt) (hR : Rd rtEn 4 w v l) (hok : ∀ r ∈ l, r.1.1.ok) (hlen : l.length ≤ 1000) (k : Pf) (hk : k.1.ok) (low : Int) :
    Calls Try.prog 29 #[v, .agg #[.int .u64 (k.1.1 : Int), .int .u64 (k.1.2 : Int), .int .i64 k.2], .int .i64 low] w (AtPost w (atV (ofM l) k low)) := by
  obtain ⟨W0, hW0⟩ : ∃ W0, W0 = w.alloc (.cells #[.int .u64 (k.1.1 : Int), .int .u64 (k.1.2 : Int), .int .i64 k.2] 37) := ⟨_, rfl⟩
  have hb0 : Below w.heap.size w W0 := by rw [hW0]; exact (Below.refl _ _).alloc (Nat.le_refl _) _
  have HB0 := hid hb0
  have BK := hid (show Blk W0 w.heap.size 37 [.int .u64 (k.1.1 : Int), .int .u64 (k.1.2 : Int), .int .i64 k.2] from by rw [hW0]; exact Blk.new w [.int .u64 (k.1.1 : Int), .int .u64 (k.1.2 : Int), .int .i64 k.2] _)
  have cO := hid (fun (w' : World) (h : Below w.heap.size w w') => cover_of w' v l (hR.below rtEn_length h) hok (by omega))
  have cA := hid (fun (w' : World) (g : Nat) F N n (H : TrieN w' g F N (ofM l) n) => cover_at H k hk low)
  generalize atV (ofM l) k low = av at cA ⊢
  unfold AtPost at cA ⊢
  generalize av.getD 0 = hop at cA ⊢
  generalize av.isSome = is at cA ⊢
  obtain ⟨A, cap, rfl, n1, m1⟩ := hR.form
  have HCO := hid cO.out
  generalize l.length = n at *
  obtain ⟨⟨k1, k2⟩, k3⟩ := k
  clear hR hok hlen n1 m1 hb0
  simp only at hW0 BK cA
  go_enter Try.func29, Try.ntmps29
  go_wp2_with fail
  rw [← hW0]
  clear hW0
  have hS : (W0.drew.cell? ⟨w.heap.size, 0, none⟩ = some (.int .u64 (k1 : Int)) ∧ W0.drew.cell? ⟨w.heap.size, 1, none⟩ = some (.int .u64 (k2 : Int)) ∧ W0.drew.cell? ⟨w.heap.size, 2, none⟩ = some (.int .i64 k3)) := ⟨BK.out.cellv (i := 0) rfl, BK.out.cellv (i := 1) rfl, BK.out.cellv (i := 2) rfl⟩
  refine wp_region_ord (fun w' => (w'.cell? ⟨w.heap.size, 0, none⟩ = some (.int .u64 (k1 : Int)) ∧ w'.cell? ⟨w.heap.size, 1, none⟩ = some (.int .u64 (k2 : Int)) ∧ w'.cell? ⟨w.heap.size, 2, none⟩ = some (.int .i64 k3))) (by kernel_rfl) hS ?_
  refine ord_still 0 rfl (v := ?_) (by kernel_rfl) (fun _ _ _ h => h) rfl (fun W hW => ?_) hS ?_
  rotate_left
  · try dsimp only at hW
    go_simp
    try with_reducible rfl
  simp only [Act.put, List.setIfInBounds_toArray, List.set_cons_zero, List.set_cons_succ]
  refine ord_still 2 rfl (v := ?_) (by kernel_rfl) (fun _ _ _ h => h) rfl (fun W hW => ?_) hS ?_
  rotate_left
  · try dsimp only at hW
    go_simp
    try with_reducible rfl
  simp only [Act.put, List.setIfInBounds_toArray, List.set_cons_zero, List.set_cons_succ]
  refine ord_still 3 rfl (v := ?_) (by kernel_rfl) (fun _ _ _ h => h) rfl (fun W hW => ?_) hS ?_
  rotate_left
  · try dsimp only at hW
    go_simp
    try with_reducible rfl
  simp only [Act.put, List.setIfInBounds_toArray, List.set_cons_zero, List.set_cons_succ]
  refine ord_alone 1 rfl (by kernel_rfl) rfl (fun K hK => ?_)
  go_simp
  refine (cO.out _ HB0.out.drew).mono ?_
  rintro _ w6 ⟨g, F, N, nn, rfl, hT, _, _, _, hb6⟩
  have BK6 := hid (Blk.below' (w := W0.drew) BK.out hb6)
  have HB6 := hid (held_next HB0.out.drew hb6)
  have cA6 := hid (cA.out w6 g F N _ hT)
  clear hT hb6
  clear hS
  have hS : (w6.cell? ⟨w.heap.size, 0, none⟩ = some (.int .u64 (k1 : Int)) ∧ w6.cell? ⟨w.heap.size, 1, none⟩ = some (.int .u64 (k2 : Int)) ∧ w6.cell? ⟨w.heap.size, 2, none⟩ = some (.int .i64 k3)) := ⟨BK6.out.cellv (i := 0) rfl, BK6.out.cellv (i := 1) rfl, BK6.out.cellv (i := 2) rfl⟩
  refine hK.out _ _ hS ?_
  clear hK
  refine ord_alone 4 rfl (by kernel_rfl) rfl (fun K hK => ?_)
  go_simp
  refine (cA6.out).mono ?_
  rintro _ w7 ⟨rfl, hb7⟩
  have BK7 := hid (BK6.out.below' hb7)
  have HB7 := hid (held_next HB6.out hb7)
  clear hb7
  clear hS
  have hS : (w7.cell? ⟨w.heap.size, 0, none⟩ = some (.int .u64 (k1 : Int)) ∧ w7.cell? ⟨w.heap.size, 1, none⟩ = some (.int .u64 (k2 : Int)) ∧ w7.cell? ⟨w.heap.size, 2, none⟩ = some (.int .i64 k3)) := ⟨BK7.out.cellv (i := 0) rfl, BK7.out.cellv (i := 1) rfl, BK7.out.cellv (i := 2) rfl⟩
  refine hK.out _ _ hS ?_
  clear hK
  refine ord_still 5 rfl (v := ?_) (by kernel_rfl) (fun _ _ _ h => h) rfl (fun W hW => ?_) hS ?_
  rotate_left
  · try dsimp only at hW
    go_simp
    try with_reducible rfl
  simp only [Act.put, List.setIfInBounds_toArray, List.set_cons_zero, List.set_cons_succ]
  refine ord_still 6 rfl (v := ?_) (by kernel_rfl) (fun _ _ _ h => h) rfl (fun W hW => ?_) hS ?_
  rotate_left
  · try dsimp only at hW
    go_simp
    try with_reducible rfl
  simp only [Act.put, List.setIfInBounds_toArray, List.set_cons_zero, List.set_cons_succ]
  refine ord_still 7 rfl (v := ?_) (by kernel_rfl) (fun _ _ _ h => h) rfl (fun W hW => ?_) hS ?_
  rotate_left
  · try dsimp only at hW
    go_simp
    try with_reducible rfl
  simp only [Act.put, List.setIfInBounds_toArray, List.set_cons_zero, List.set_cons_succ]
  refine ord_still 8 rfl (v := ?_) (by kernel_rfl) (fun _ _ _ h => h) rfl (fun W hW => ?_) hS ?_
  rotate_left
  · try dsimp only at hW
    go_simp
    try with_reducible rfl
  simp only [Act.put, List.setIfInBounds_toArray, List.set_cons_zero, List.set_cons_succ]
  refine ord_done (by kernel_rfl) ?_
  clear hS
  go_wp2_with fail
  go_ret2
  exact ⟨rfl, HB7.out⟩

end Go.Proofs.Ytcchjljdhjkmeaa
