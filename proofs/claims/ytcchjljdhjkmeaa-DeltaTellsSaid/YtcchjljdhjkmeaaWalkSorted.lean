/-
  walk.Sorted: routes in order, each prefix once, of alike ones the last given. No condition but that there are no more than a hundred thousand routes.
-/
import Derived.Test.YtcchjljdhjkmeaaCompact2
import Derived.Lib.SliceRun
namespace Go.Proofs.Ytcchjljdhjkmeaa
open Go.RowKit
set_option linter.unusedVariables false
set_option linter.unusedSimpArgs false
set_option maxRecDepth 100000

theorem st_clone (w : World) (v : Value) (l : List Rt) (hR : Rd rtEn 4 w v l) (hlen : l.length ≤ 1000000000) : Calls Try.prog 37 #[v] w (RetRts w l) := by
  have HR := hid hR
  obtain ⟨A, cap, rfl, n1, m1⟩ := hR.form
  unfold maxLen at m1
  clear hR
  have q22 : ∀ (w : World) (a : Option Addr) (n c n' c' : Nat), (binOp .eql 22 (.slice a n c) (.slice none n' c')).run Try.prog w = .ok (.bool a.isNone) w := fun w a n c n' c' => Lib.run_eql_slice_nil w _ _ a n c n' c' Try.underlying22
  cases A with
  | none =>
    have hl : l = [] := by
      obtain ⟨A', c', e, _, _, hrow, _⟩ := HR.out
      injection e with e _ _
      subst e
      cases l with
      | nil => rfl
      | cons y l => obtain ⟨b, o, hA, _⟩ := hrow 0 (by simp); cases hA
    subst hl
    go_enter Try.func37, Try.ntmps37
    go_wp2_with fail
    go_ret
    exact ⟨_, rfl, Owns.nil _ _ _ _, Below.refl _ _⟩
  | some ad =>
    have HO := hid (World.ownsRow_made w #[] 0 (base := w.heap.size) (e := 39) (size := 4) (Nat.le_refl _) (Nat.zero_le _) (by simp))
    have HR1 := hid (fun o => HR.out.below rtEn_length ((Below.refl w.heap.size w).alloc (Nat.le_refl _) o))
    go_enter Try.func37, Try.ntmps37
    go_wp2_with (at_builtin; refine wpList_append_rd rfl _ _ 22 rfl 39 _ 4 32 Try.underlying22 rt_row rfl (by decide) w.heap.size _ 0 [] rfl HO.out _ rfl l (HR1.out _) rtEn_length cells_rt ?c1 ?c2 ?c3 ?_)
    case c1 => unfold maxLen; omega
    case c2 => omega
    case c3 => simp
    intro v' w1 hO hC
    have HO1 := hid (show OwnRts w l w1 v' from hO)
    have HB1 := hid ((((Chg.refl (fun g => g = w.heap.size) w).alloc (.cells #[] 39)).trans (S' := fun g => Value.ownBlock (.slice (some ⟨w.heap.size, 0, none⟩) 0 0) = some g) hC (fun i hi h => by simp [Value.ownBlock] at h; exact h.symm)).below (Nat.le_refl _) (fun i hi h => by omega))
    clear hO hC
    go_wp2_with fail
    go_ret
    exact ⟨_, rfl, HO1.out, HB1.out⟩

theorem rev_nil (w : World) : Calls Try.prog 38 #[.slice none 0 0] w fun e w' => e = .returned (.tuple #[]) ∧ w = w' := by
  go_enter Try.func38, Try.ntmps38
  go_wp2_with fail
  go_loopw [2, 3] (fun iv jv wr => iv = .int .i64 0 ∧ jv = .int .i64 (-1) ∧ w = wr) (fun _ _ _ => 0)
  case atStart => exact ⟨rfl, rfl, rfl⟩
  case round =>
    obtain ⟨rfl, rfl, rfl⟩ := hrel
    go_wp2_with fail
    go_returns
    exact ⟨rfl, rfl⟩
theorem ins_nil (w : World) : Calls Try.prog 68 #[.slice none 0 0, .int .i64 0, .int .i64 0, .func (.func 40) #[] #[]] w fun e w' => e = .returned (.tuple #[]) ∧ w = w' := by
  go_enter Try.func68, Try.ntmps68
  go_wp2_with fail
  go_loopw [8] (fun iv wr => iv = .int .i64 1 ∧ w = wr) (fun _ _ => 0)
  case atStart => exact ⟨rfl, rfl⟩
  case round =>
    obtain ⟨rfl, rfl⟩ := hrel
    go_wp2_with fail
    go_returns
    exact ⟨rfl, rfl⟩
theorem stable_nil (w : World) : Calls Try.prog 56 #[.slice none 0 0, .int .i64 0, .func (.func 40) #[] #[]] w fun e w' => e = .returned (.tuple #[]) ∧ w = w' := by
  go_enter Try.func56, Try.ntmps56
  go_wp2_with fail
  go_loopw [7, 8] (fun av bv wr => av = .int .i64 0 ∧ bv = .int .i64 20 ∧ w = wr) (fun _ _ _ => 0)
  case atStart => exact ⟨rfl, rfl, rfl⟩
  case round =>
    obtain ⟨rfl, rfl, rfl⟩ := hrel
    go_wp2_with fail
    refine (ins_nil _).mono ?_
    rintro _ w1 ⟨rfl, rfl⟩
    go_wp2_with fail
    go_loopw [6, 7, 8] (fun kv av bv wr => kv = .int .i64 20 ∧ av = .int .i64 0 ∧ bv = .int .i64 20 ∧ w = wr) (fun _ _ _ _ => 0)
    case atStart => exact ⟨rfl, rfl, rfl, rfl⟩
    case round =>
      obtain ⟨rfl, rfl, rfl, rfl⟩ := hrel
      go_wp2_with fail
      go_returns
      exact ⟨rfl, rfl⟩
theorem sortStable_nil (w : World) : Calls Try.prog 39 #[.slice none 0 0, .func (.func 40) #[] #[]] w fun e w' => e = .returned (.tuple #[]) ∧ w = w' := by
  go_enter Try.func39, Try.ntmps39
  go_wp2_with fail
  refine (stable_nil _).mono ?_
  rintro _ w5 ⟨rfl, rfl⟩
  go_wp2_with fail
  go_returns
  exact ⟨rfl, rfl⟩
theorem compact_nil (w : World) : Calls Try.prog 42 #[.slice none 0 0, .func (.func 43) #[] #[]] w fun e w' => e = .returned (.slice none 0 0) ∧ w = w' := by
  go_enter Try.func42, Try.ntmps42
  go_wp2_with fail
  go_ret
  exact ⟨rfl, rfl⟩

theorem walk_sorted (w : World) (v : Value) (l : List Rt) (hR : Rd rtEn 4 w v l) (hlen : l.length ≤ 1000000) : Calls Try.prog 13 #[v] w (RetRts w (sortedL l)) := by
  have c0 := hid (st_clone w v l hR (by omega))
  clear hR
  go_enter Try.func13, Try.ntmps13
  go_wp2_with fail
  refine c0.out.mono ?_
  rintro _ w1 ⟨v1, rfl, hO, hB⟩
  rcases hO.2 with ⟨rfl, hn0⟩ | ⟨g, cap, cur, rfl, hbg, hcur, hnc, hcm, hcs, htk⟩
  · have hl : l = [] := List.length_eq_zero_iff.1 hn0
    subst hl
    have HB := hid hB
    clear hO hB c0
    go_wp2_with fail
    refine (rev_nil _).mono ?_
    rintro _ w2 ⟨rfl, rfl⟩
    go_wp2_with fail
    refine (sortStable_nil _).mono ?_
    rintro _ w2 ⟨rfl, rfl⟩
    go_wp2_with fail
    refine (compact_nil _).mono ?_
    rintro _ w2 ⟨rfl, rfl⟩
    go_wp2_with fail
    go_ret
    exact ⟨_, rfl, Owns.nil _ _ _ _, HB.out⟩
  · obtain ⟨n, hn⟩ : ∃ n, l.length = n := ⟨_, rfl⟩
  
    have hcm' : n ≤ 4000000000000000000 ∧ cap ≤ 9223372036854775807 := by unfold maxLen at hcm; omega
    obtain ⟨L, hL⟩ : ∃ L, L = (tagsOf l.reverse).reverse := ⟨_, rfl⟩
    have hLm : L.map (·.1) = l := by rw [hL, List.map_reverse, tagsOf_map, List.reverse_reverse]
    have hLl : L.length = n := by rw [hL, List.length_reverse, tagsOf_len, List.length_reverse, hn]
    obtain ⟨Z, hZ⟩ : ∃ Z, Z = cur.toList.drop (n * 4) := ⟨_, rfl⟩
    have hZl : n * 4 + Z.length = cap * 4 := by rw [hZ, List.length_drop]; rw [hn] at hnc; have := hcs; simp; omega
    have hRow : RowT w1 g L Z := by
      unfold RowT Blk
      have e : rtsV (L.map (·.1)) ++ Z = cur.toList := by
        have : rtsV (L.map (·.1)) = cur.toList.take (n * 4) := by rw [hLm]; rw [hn] at htk; exact htk.symm
        rw [this, hZ, List.take_append_drop]
      rw [e]; simpa using hcur
    rw [hn] at hnc hO ⊢
    have cR := hid (st_reverse hRow hLl hnc hcm' (by omega))
    have HLR := hid (show L.reverse = tagsOf l.reverse by rw [hL, List.reverse_reverse])
    have HGB := hid (show w.heap.size ≤ g from hbg)
    have HB := hid hB
    have HNC := hid hnc
    have HCM := hid hcm
    have HN := hid hn
    have HZL := hid hZl
    have HLL := hid hLl
    have hni : n ≤ 1000000000 := by omega
    clear hO hcur hcs htk hL hLm hZ hRow hB c0 hn hZl hLl hbg hcm hlen hnc
    go_wp2_with fail
    refine cR.out.mono ?_
    rintro _ w2 ⟨rfl, hR2, hC2⟩
    have hlr : L.reverse.length = n := by rw [List.length_reverse, HLL.out]
    have cS := hid (st_sortStable hR2 hlr (by rw [HLR.out]; exact tagsOf_tags _) HNC.out hcm' (by omega))
    have HC2 := hid hC2
    clear hR2 hC2 cR hlr
    go_wp2_with fail
    refine cS.out.mono ?_
    rintro _ w3 ⟨rfl, U, hU1, hU2, hU3, hC3⟩
    have hul : U.length = n := by rw [hU1.length_eq, List.length_reverse, HLL.out]
    have cC := hid (st_compact hU3 hul HNC.out hcm' (by omega))
    have HS := hid (sort_is (l := l) (L := L.reverse) (U := U) (by rw [HLR.out, tagsOf_map]) (by rw [HLR.out]; exact tagsOf_tags _) hU1 hU2)
    have HC3 := hid (HC2.out.trans' hC3)
    have HUL := hid hul
    clear hU1 hU2 hU3 hC3 cS hul
    go_wp2_with fail
    refine cC.out.mono ?_
    rintro _ w4 ⟨rfl, Z', hR4, hZ4, hC4⟩
    have hS := HS.out
    have hsl : (compT U).length = (sortedL l).length := by rw [← hS, List.length_map]
    have hcl := compT_len U
    have HF := hid (show OwnRts w (sortedL l) w4 (.slice (some ⟨g, 0, none⟩) (compT U).length cap) from by
      unfold OwnRts
      rw [hsl]
      unfold RowT at hR4
      rw [hS] at hR4
      have h1 := HZL.out
      have h2 := HUL.out
      have h3 := HNC.out
      refine Owns.of_blk hR4 HGB.out ?_ (by omega) HCM.out ?_ (rtsV_len _)
      · rw [List.length_append, rtsV_len]; omega
      · rw [List.take_append_of_le_length (by rw [rtsV_len]; omega), List.take_of_length_le (by rw [rtsV_len]; omega)])
    have HBB := hid (HB.out.trans (((HC3.out.trans' hC4)).below HB.out.size (fun i hi e => by have := HGB.out; omega)))
    clear hR4 hZ4 hC4 cC hS hsl hcl
    go_wp2_with fail
    go_ret
    exact ⟨_, rfl, HF.out, HBB.out⟩

end Go.Proofs.Ytcchjljdhjkmeaa
