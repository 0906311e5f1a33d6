/-
  All keys of the document's table, in order. No condition but that there are fewer than a hundred thousand keys.
-/
import Derived.Test.YtpjjijhojcfmnaaGreatRTab5
namespace Go.Proofs.YtpjjijhojcfmnaaGreat
open Go.RowKit
set_option linter.unusedVariables false
set_option linter.unusedSimpArgs false
set_option maxRecDepth 100000

def runI (K : List Rt) : List Rt := K.foldl intoL []
theorem runI_snoc (K : List Rt) (r : Rt) : runI (K ++ [r]) = intoL (runI K) r := by unfold runI; rw [List.foldl_append]; rfl
theorem runI_snoc_at {K : List Rt} {k : Nat} {r : Rt} (h : K[k]? = some r) (A : List Rt) : runI (A ++ K.take (k + 1)) = intoL (runI (A ++ K.take k)) r := by
  obtain ⟨hk, e⟩ := List.getElem?_eq_some_iff.1 h
  rw [List.take_succ_eq_append_getElem hk, e, ← List.append_assoc, runI_snoc]
theorem foldI_ord : ∀ (K l : List Rt), l.Pairwise (fun x y => x.1.lt y.1) → (K.foldl intoL l).Pairwise (fun x y => x.1.lt y.1)
  | [], _, h => h
  | r :: K, l, h => foldI_ord K _ (into_ord h r)
theorem runI_ord (K : List Rt) : (runI K).Pairwise (fun x y => x.1.lt y.1) := foldI_ord K [] .nil
theorem foldI_len : ∀ (K l : List Rt), (K.foldl intoL l).length ≤ l.length + K.length
  | [], _ => by simp
  | r :: K, l => by
    have h1 := foldI_len K (intoL l r)
    have h2 := into_length l r
    simp only [List.foldl_cons, List.length_cons]; omega
theorem runI_len (K : List Rt) : (runI K).length ≤ K.length := by have := foldI_len K []; simpa [runI] using this
theorem foldI_cnt : ∀ (K l : List Rt), l.Pairwise (fun x y => x.1.lt y.1) → (∀ p, l.countP (keyIs p) + K.countP (keyIs p) ≤ 1) → ∀ q, (K.foldl intoL l).countP q = l.countP q + K.countP q
  | [], l, _, _, q => by simp
  | r :: K, l, hl, h, q => by
    have hr := h r.1
    rw [List.countP_cons, if_pos (by simp [keyIs])] at hr
    have h0 : l.countP (keyIs r.1) = 0 := by omega
    have hne : ∀ x ∈ l, x.1 ≠ r.1 := fun x hx e => by
      have := List.countP_eq_zero.1 h0 x hx
      simp [keyIs, e] at this
    have ih := foldI_cnt K (intoL l r) (into_ord hl r) (fun p => by
      rw [into_cnt (keyIs p) r l hne]
      have h1 := h p
      rw [List.countP_cons] at h1
      cases hk : keyIs p r <;> simp [hk] at h1 ⊢ <;> omega) q
    rw [List.foldl_cons, ih, into_cnt q r l hne, List.countP_cons]
    cases hq : q r <;> simp <;> omega
/-- The keys one into another are the list that the table stands for. -/
theorem Rep.run {t : Tb} {l : List Rt} (h : Rep t l) (hok : t.Ok) : runI (keysT t) = l := by
  have hc := foldI_cnt (keysT t) [] .nil (fun p => by have := hok.one p; rw [← keysT_cnt] at this; simpa using this)
  refine ord_unique (runI_ord _) h.ord fun r => ?_
  have h1 := hc (isR r)
  have h2 := h.cnt (isR r)
  rw [← keysT_cnt] at h2
  have e : ∀ k : List Rt, r ∈ k ↔ 0 < k.countP (isR r) := fun k => by rw [List.countP_pos_iff]; simp [isR]
  rw [e, e]
  unfold runI
  rw [h1, h2]; simp

def RAllRel (w : World) (t : Tb) (n : Nat) (v i : Value) (wr : World) : Prop :=
  ∃ k : Nat, k ≤ n ∧ i = .int .i64 k ∧ Owns wr w.heap.size 77 4 v (runI ((t.bs.take k).flatMap entB)).length (rtsV (runI ((t.bs.take k).flatMap entB))) ∧ Below w.heap.size w wr
def RAllIn (w w1 : World) (A E : List Rt) (v i : Value) (wr : World) : Prop :=
  ∃ k : Nat, k ≤ E.length ∧ i = .int .i64 k ∧ Owns wr w.heap.size 77 4 v (runI (A ++ E.take k)).length (rtsV (runI (A ++ E.take k))) ∧ Below w1.heap.size w1 wr

set_option maxHeartbeats 8000000 in
theorem rk_all {w : World} {g : Nat} {F : Nat → Prop} {t : Tb} (H0 : RwF w g F t) (hok : t.Ok) (hlen : (keysT t).length ≤ 99000) (l : List Rt) (hR : Rep t l) :
    Calls Tryz.prog 14 #[.pointer (some ⟨g, 0, none⟩)] w (RetRts w l) := by
  obtain ⟨q, v, H, _, _, _⟩ := H0
  obtain ⟨A0, cap0, rfl, hmc, hcm0, hA0⟩ := Owns.form H.st
  unfold maxLen at hcm0
  have HRUN := hid (hR.run hok)
  have HLEN := hid hok.len
  have HH := hid H
  have HK := hid hlen
  have hn2 := hok.n2
  obtain ⟨n, hn⟩ : ∃ n, t.n = n := ⟨_, rfl⟩
  have HN := hid hn
  obtain ⟨m0, hm0⟩ : ∃ m0, t.st.length = m0 := ⟨_, rfl⟩
  have HM0 := hid hm0
  rw [hm0] at HH hmc
  rw [hn] at hn2
  have HPART := hid (fun k (h : k < t.n) => keys_part (t := t) k h)
  have HALL := hid (show (t.bs.flatMap entB) ++ t.st = keysT t from rfl)
  clear H hok hR hlen hn hm0 hA0
  go_enter Tryz.func14, Tryz.ntmps14
  go_wp2_with fail
  go_loopw [3, 4] (fun v i wr => RAllRel w t n v i wr) (fun _ i _ => n - (intOf i).toNat)
  case atStart => exact ⟨0, Nat.zero_le _, rfl, Owns.nil _ _ _ _, Below.refl _ _⟩
  case round =>
    obtain ⟨k, hk, rfl, hO, hb⟩ := hrel
    have HB := hid hb
    have HHr := hid (HH.out.below hb)
    have y1 := HHr.out.top.cellv (i := 1) rfl
    have y2 := HHr.out.top.cellv (i := 2) rfl
    rw [HN.out] at y1
    by_cases hkn : k < n
    · have cA := hid (rk_ball HHr.out (i := k) (by rw [HN.out]; exact hkn) HLEN.out)
      have HPK := hid (HPART.out k (by rw [HN.out]; exact hkn))
      have HSN := hid (keys_snoc (t := t) (k := k) (by rw [HN.out]; exact hkn))
      obtain ⟨A2, cap2, rfl, _, hcm2, _⟩ := Owns.form hO
      unfold maxLen at hcm2
      have HO := hid hO
      generalize hL : (t.bs.take k).flatMap entB = L at *
      generalize hE : entB (t.at k) = E at *
      have hk0 : (0 : Int) ≤ (k : Int) := by omega
      have hk1 : (k : Int) < (n : Int) := by omega
      clear hO hb hL hE
      go_wp2_with fail
      refine cA.out.mono ?_
      rintro _ w1 ⟨u, rfl, hU, hb1⟩
      have HO1 := hid (HO.out.below hb1)
      have HRu := hid hU.rd
      obtain ⟨A3, cap3, hu⟩ := hU.form
      subst hu
      have HB1 := hid (held_next HB.out hb1)
      have HB1W := hid (HB1.out)
      have hs1 := HB1.out.size
      obtain ⟨ne, hne⟩ : ∃ z, E.length = z := ⟨_, rfl⟩
      have HNE := hid hne
      have hE4 : L.length + E.length ≤ 99000 := Nat.le_trans HPK.out HK.out
      have hne4 : ne ≤ 99000 := by omega
      rw [hne] at HRu ⊢
      clear hU hb1 cA hne y1 y2
      go_wp2_with fail
      go_loopw [3, 6] (fun v i w' => RAllIn w w1 L E v i w') (fun _ i _ => ne - (intOf i).toNat)
      case atStart => exact ⟨0, Nat.zero_le _, rfl, by rw [List.take_zero, List.append_nil]; exact HO1.out, Below.refl _ _⟩
      case round =>
        obtain ⟨j, hj, rfl, hOj, hbj⟩ := hrel
        rw [HNE.out] at hj
        have HBJ := hid hbj
        obtain ⟨A4, cap4, rfl, _, hcm4, _⟩ := Owns.form hOj
        unfold maxLen at hcm4
        have HOJ := hid hOj
        clear hOj hbj
        by_cases hje : j < ne
        · obtain ⟨x, hx⟩ : ∃ x, E[j]? = some x := ⟨_, List.getElem?_eq_getElem (by rw [HNE.out]; exact hje)⟩
          have HXS := hid (runI_snoc_at hx L)
          have hrl : (runI (L ++ E.take j)).length ≤ 100000 := by
            have := runI_len (L ++ E.take j)
            rw [List.length_append, List.length_take] at this; omega
          have hRu := HRu.out.below rtEn_length HBJ.out
          obtain ⟨ba, oa, ca, hv, _, _, la, sa⟩ := hRu.get rtEn_length (by decide) hx
          rw [HNE.out] at hv
          injection hv with hA hxx hc
          subst hA hc
          have z0 := sa 0 _ rfl
          have z1 := sa 1 _ rfl
          have z2 := sa 2 _ rfl
          have z3 := sa 3 _ rfl
          have cI := hid (ref_into _ _ _ (Rd.of_owns (en := rtEn) HOJ.out rtEn_length) hrl x)
          obtain ⟨⟨⟨x1, x2⟩, x3⟩, x4⟩ := x
          simp only [Nat.add_zero] at z0 z1 z2 z3 cI
          have hj0 : (0 : Int) ≤ (j : Int) := by omega
          have hj1 : (j : Int) < (ne : Int) := by omega
          clear sa hxx hx hRu hrl
          go_wp2_with fail
          refine cI.out.mono ?_
          rintro _ w6 ⟨v6, rfl, hO6, hb6⟩
          have hsz := HBJ.out.size
          have HO6 := hid (Owns.lower hO6 (Nat.le_trans hs1 hsz))
          have HB6 := hid (held_next HBJ.out hb6)
          clear hO6 hb6 cI z0 z1 z2 z3
          go_wp2_with fail
          go_roundw
          case rel => exact ⟨j + 1, by rw [HNE.out]; omega, by go_num, by rw [HXS.out]; exact HO6.out, HB6.out⟩
          case measure => simp [intOf]; omega
        · have hjn : j = ne := by omega
          subst hjn
          have e : E.take j = E := List.take_of_length_le (by rw [HNE.out]; exact Nat.le_refl _)
          rw [e, ← HSN.out] at HOJ
          have HBF := hid (HB1W.out.trans (HBJ.out.mono HB1W.out.size))
          go_wp2_with fail
          go_roundw
          case rel => exact ⟨k + 1, by omega, by go_num, by rw [e, ← HSN.out]; exact HOJ.out, HBF.out⟩
          case measure => simp [intOf]; omega
    · have hkn : k = n := by omega
      subst hkn
      have hall : (t.bs.take k).flatMap entB = t.bs.flatMap entB := by rw [← HN.out]; unfold Tb.n; rw [List.take_length]
      rw [hall] at hO
      obtain ⟨A2, cap2, rfl, _, hcm2, _⟩ := Owns.form hO
      unfold maxLen at hcm2
      have HO := hid hO
      obtain ⟨L, hL⟩ : ∃ L, t.bs.flatMap entB = L := ⟨_, rfl⟩
      have HL := hid hL
      have hST := HHr.out.st
      rw [HM0.out] at hST
      have HRs := hid (Rd.of_owns (en := rtEn) (l := t.st) (by rw [HM0.out]; exact hST) rtEn_length)
      have HKL := hid (show L.length + m0 ≤ 99000 by
        have := HK.out
        rw [← HALL.out, List.length_append, hL, HM0.out] at this; exact this)
      have hLl := HKL.out
      rw [hL] at HO ⊢
      have HB2 := hid hb
      have hs1 := hb.size
      have HAR := hid HHr.out
      clear hO hb hall hL hST
      go_wp2_with fail
      go_loopw [3, 7] (fun v i w' => RAllIn w wr L t.st v i w') (fun _ i _ => m0 - (intOf i).toNat)
      case atStart => exact ⟨0, Nat.zero_le _, rfl, by rw [List.take_zero, List.append_nil]; exact HO.out, Below.refl _ _⟩
      case round =>
        obtain ⟨j, hj, rfl, hOj, hbj⟩ := hrel
        rw [HM0.out] at hj
        have HBJ := hid hbj
        have HHj := HAR.out.below hbj
        have y2 := HHj.top.cellv (i := 2) rfl
        obtain ⟨A4, cap4, rfl, _, hcm4, _⟩ := Owns.form hOj
        unfold maxLen at hcm4
        have HOJ := hid hOj
        clear hOj hbj HHj
        by_cases hje : j < m0
        · obtain ⟨x, hx⟩ : ∃ x, t.st[j]? = some x := ⟨_, List.getElem?_eq_getElem (by rw [HM0.out]; exact hje)⟩
          have HXS := hid (runI_snoc_at hx L)
          have hrl : (runI (L ++ t.st.take j)).length ≤ 100000 := by
            have := runI_len (L ++ t.st.take j)
            rw [List.length_append, List.length_take] at this; omega
          have hRu := HRs.out.below rtEn_length HBJ.out
          obtain ⟨ba, oa, ca, hv, _, _, la, sa⟩ := hRu.get rtEn_length (by decide) hx
          rw [HM0.out] at hv
          injection hv with hA hxx hc
          subst hA hc
          have z0 := sa 0 _ rfl
          have z1 := sa 1 _ rfl
          have z2 := sa 2 _ rfl
          have z3 := sa 3 _ rfl
          have cI := hid (ref_into _ _ _ (Rd.of_owns (en := rtEn) HOJ.out rtEn_length) hrl x)
          obtain ⟨⟨⟨x1, x2⟩, x3⟩, x4⟩ := x
          simp only [Nat.add_zero] at z0 z1 z2 z3 cI
          have hj0 : (0 : Int) ≤ (j : Int) := by omega
          have hj1 : (j : Int) < (m0 : Int) := by omega
          clear sa hxx hx hRu hrl
          go_wp2_with fail
          refine cI.out.mono ?_
          rintro _ w6 ⟨v6, rfl, hO6, hb6⟩
          have hsz := HBJ.out.size
          have HO6 := hid (Owns.lower hO6 (Nat.le_trans hs1 hsz))
          have HB6 := hid (held_next HBJ.out hb6)
          clear hO6 hb6 cI z0 z1 z2 z3 y2
          go_wp2_with fail
          go_roundw
          case rel => exact ⟨j + 1, by rw [HM0.out]; omega, by go_num, by rw [HXS.out]; exact HO6.out, HB6.out⟩
          case measure => simp [intOf]; omega
        · have hjn : j = m0 := by omega
          subst hjn
          have e : t.st.take j = t.st := List.take_of_length_le (by rw [HM0.out]; exact Nat.le_refl _)
          have e2 : runI (L ++ t.st) = l := by rw [← HL.out, HALL.out]; exact HRUN.out
          rw [e, e2] at HOJ
          have HBF := hid (HB2.out.trans (HBJ.out.mono HB2.out.size))
          rw [e, e2]
          go_wp2_with fail
          go_ret
          exact ⟨_, rfl, HOJ.out, HBF.out⟩

end Go.Proofs.YtpjjijhojcfmnaaGreat
