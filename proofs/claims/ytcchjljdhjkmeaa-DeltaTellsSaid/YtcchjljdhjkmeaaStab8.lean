/-
  Sorting routes stably, as the library does: the whole sort. No condition but that there are no more than a thousand million routes.
-/
import Derived.Test.YtcchjljdhjkmeaaStab7
namespace Go.Proofs.Ytcchjljdhjkmeaa
open Go.RowKit
set_option linter.unusedVariables false
set_option linter.unusedSimpArgs false
set_option maxRecDepth 100000

def StbPost (g : Nat) (Z : List Value) (L : List Tg) (w : World) (e : Ending) (w' : World) : Prop := e = .returned (.tuple #[]) ∧ ∃ U : List Tg, U.Perm L ∧ U.Pairwise tl ∧ RowT w' g U Z ∧ Chg (· = g) w w'
set_option maxHeartbeats 2000000 in
theorem st_stable {w : World} {g cap n : Nat} {L : List Tg} {Z : List Value} (H : RowT w g L Z) (hn : L.length = n) (hL : Tags L) (hc : n ≤ cap) (hcm : n ≤ 4000000000000000000 ∧ cap ≤ 9223372036854775807) (hnm : n ≤ 1000000000) :
    Calls Try.prog 56 #[.slice (some ⟨g, 0, none⟩) n cap, .int .i64 (n : Int), .func (.func 40) #[] #[]] w (StbPost g Z L w) := by
  have H0 := hid (show St1 L 0 [] ∧ RowT w g ([] ++ L.drop 0) Z ∧ Chg (· = g) w w from ⟨⟨rfl, Nat.zero_le _, Good.nil _, by simp, 0, rfl⟩, by simpa using H, Chg.refl _ _⟩)
  have HLT := hid hL
  have HN := hid hn
  have HINS := hid (fun (w : World) (a b : Nat) (A S B : List Tg) (H : RowT w g (A ++ S ++ B) Z) h1 h2 h3 h4 => st_insA (w := w) (n := n) (cap := cap) (a := a) (b := b) H h1 h2 h3 h4 hc (by unfold maxLen; omega) (by omega))
  have HSYM := hid (fun (w : World) (a m b : Nat) (A S T B : List Tg) (H : RowT w g (A ++ S ++ T ++ B) Z) h1 h2 h3 h4 h5 h6 h7 h8 h9 => sym_at (S.length + T.length) w g cap n a m b A S T B Z H h1 h2 h3 h4 h5 h6 h7 h8 h9 (Nat.le_refl _) hc hcm)
  have hnI : (n : Int) ≤ 1000000000 := by omega
  clear H hn hL
  go_enter Try.func56, Try.ntmps56
  go_wp2_with fail
  go_loopw [7, 8] (fun av bv wr => Sb1 g Z L w av bv wr) (fun av bv _ => n + 20 - (intOf bv).toNat)
  case atStart => exact ⟨0, 20, [], rfl, rfl, rfl, H0.out⟩
  case round =>
    obtain ⟨a, b, D, rfl, rfl, hab, hS, hR, hC⟩ := hrel
    clear H0
    have HS := hid hS
    have HC := hid hC
    have hal := hS.al
    have hN := HN.out
    have hdl := hS.len
    by_cases hbn : b ≤ n
    · have cI := hid (HINS.out wr a b D ((L.drop a).take 20) (L.drop b) (by
          have e : D ++ (L.drop a).take 20 ++ L.drop b = D ++ L.drop a := by rw [hab, ← List.drop_drop, List.append_assoc, List.take_append_drop]
          rw [e]; exact hR) (by rw [List.length_take, List.length_drop, List.length_drop]; omega) hdl (by rw [List.length_take, List.length_drop]; omega) ((HLT.out.sublist (List.drop_sublist _ _)).sublist (List.take_sublist _ _)))
      have HNX := hid (fun (U : List Tg) (h1 : U.Perm ((L.drop a).take 20)) (h2 : U.Pairwise tl) => HS.out.step HLT.out h1 h2 (by omega))
      have b1 : (b : Int) ≤ (n : Int) := by omega
      have HAB := hid hab
      clear hS hR hC hab hal hN hdl
      go_wp2_with fail
      refine cI.out.mono ?_
      rintro _ w5 ⟨rfl, U, u1, u2, u3, u4⟩
      have HF := hid (show St1 L b (D ++ U) ∧ RowT w5 g (D ++ U ++ L.drop b) Z ∧ Chg (· = g) w w5 from ⟨by have := HNX.out U u1 u2; rw [HAB.out]; exact this, u3, HC.out.trans' u4⟩)
      clear u1 u2 u3 u4 cI HNX
      go_wp2_with fail
      go_roundw
      case rel => exact ⟨b, b + 20, D ++ U, rfl, by go_num, rfl, HF.out⟩
      case measure => simp [intOf]; omega
    · have cI := hid (HINS.out wr a n D (L.drop a) [] (by simpa using hR) (by rw [List.length_drop, List.length_nil]; omega) hdl (by rw [List.length_drop]; omega) (HLT.out.sublist (List.drop_sublist _ _)))
      have HNX := hid (fun (U : List Tg) (h1 : U.Perm (L.drop a)) (h2 : U.Pairwise tl) => HS.out.fin HLT.out h1 h2 (by omega))
      have b1 : ¬ (b : Int) ≤ (n : Int) := by omega
      clear hS hR hC hab hal hN hdl hbn
      go_wp2_with fail
      refine cI.out.mono ?_
      rintro _ w5 ⟨rfl, U, u1, u2, u3, u4⟩
      have HF := hid (show Good 20 (D ++ U) ∧ (D ++ U).Perm L ∧ RowT w5 g (D ++ U) Z ∧ Chg (· = g) w w5 from ⟨(HNX.out U u1 u2).1, (HNX.out U u1 u2).2, by simpa using u3, HC.out.trans' u4⟩)
      clear u1 u2 u3 u4 cI HNX b1
      go_wp2_with fail
      go_loopw [6, 7, 8] (fun kv av bv wr => Sb2 g Z L w kv av bv wr) (fun kv _ _ _ => 4 * n + 40 - (intOf kv).toNat)
      case atStart => exact ⟨20, D ++ U, rfl, by decide, by decide, HF.out⟩
      case round =>
        obtain ⟨k, E, rfl, hk, hkm, hG, hP, hR, hC⟩ := hrel
        clear HF
        have hN := HN.out
        have hEl : E.length = n := by rw [hP.length_eq, hN]
        by_cases hkn : k < n
        · have H3 := hid (show St3 L k 0 [] E ∧ RowT wr g ([] ++ E) Z ∧ Chg (· = g) w wr from ⟨⟨rfl, ⟨0, rfl⟩, Good.nil _, hG, fun x hx => by simp at hx, by simpa using hP⟩, by simpa using hR, hC⟩)
          obtain ⟨kk, hkk⟩ : ∃ kk, 2 * k = kk := ⟨_, rfl⟩
          have c1 : 2 * (k : Int) = (kk : Int) := by omega
          have c1' : (k : Int) * 2 = (kk : Int) := by omega
          have c2 : (kk : Int) ≤ 2000000000 := by omega
          have c3 : (k : Int) < (n : Int) := by omega
          have HKK := hid hkk
          have HK := hid hk
          clear hG hP hR hC hN hEl hkk hk hkm
          go_wp2_with fail
          go_loopw [7, 8] (fun av bv wr => Sb3 g Z L k w av bv wr) (fun av bv _ => n + kk - (intOf bv).toNat)
          case atStart => exact ⟨0, kk, [], E, rfl, rfl, by have := HKK.out; omega, H3.out⟩
          case round =>
            obtain ⟨a, b, D1, R, rfl, rfl, hab, hS, hR, hC⟩ := hrel
            clear H3
            have HS3 := hid hS
            have HC3 := hid hC
            have hl2 := hS.len2
            have hdl := hS.len
            have hN := HN.out
            have hK := HK.out
            have hKK := HKK.out
            obtain ⟨r1, r2, r3, _, _⟩ := hS.parts HK.out
            obtain ⟨m, hm⟩ : ∃ m, a + k = m := ⟨_, rfl⟩
            have d1 : (a : Int) + (k : Int) = (m : Int) := by omega
            have d2 : (m : Int) ≤ 2000000000 := by omega
            have d3 : (a : Int) ≤ 1000000000 := by omega
            by_cases hbn : b ≤ n
            · have cS := hid (HSYM.out wr a m b D1 (R.take k) ((R.drop k).take k) (R.drop (2 * k)) (by
                  have e : D1 ++ R.take k ++ (R.drop k).take k ++ R.drop (2 * k) = D1 ++ R := by rw [show 2 * k = k + k by omega, ← List.drop_drop, List.append_assoc, List.append_assoc, List.take_append_drop, List.take_append_drop]
                  rw [e]; exact hR) (by simp only [List.length_take, List.length_drop]; omega) hdl (by simp only [List.length_take]; omega) (by simp only [List.length_take, List.length_drop]; omega) (by simp only [List.length_take]; omega) (by simp only [List.length_take, List.length_drop]; omega) r1 r2 r3)
              have HNX := hid (fun (U : List Tg) (h1 : U.Perm (R.take k ++ (R.drop k).take k)) (h2 : U.Pairwise tl) => HS3.out.step HK.out h1 h2 (by omega))
              have b1 : (b : Int) ≤ (n : Int) := by omega
              have HAB := hid hab
              clear hS hR hC hab hl2 hdl hN hK hKK r1 r2 r3 hm
              go_wp2_with fail
              refine cS.out.mono ?_
              rintro _ w6 ⟨rfl, U6, u1, u2, u3, u4⟩
              have HF6 := hid (show St3 L k b (D1 ++ U6) (R.drop (2 * k)) ∧ RowT w6 g (D1 ++ U6 ++ R.drop (2 * k)) Z ∧ Chg (· = g) w w6 from ⟨by have := HNX.out U6 u1 u2; rw [HAB.out]; exact this, u3, HC3.out.trans' u4⟩)
              clear u1 u2 u3 u4 cS HNX
              go_wp2_with fail
              go_roundw
              case rel => exact ⟨b, b + kk, D1 ++ U6, R.drop (2 * k), rfl, by go_num, by have := HKK.out; omega, HF6.out⟩
              case measure => have := HKK.out; have := HK.out; simp [intOf]; omega
            · have b1 : ¬ (b : Int) ≤ (n : Int) := by omega
              have hTk : (R.drop k).take k = R.drop k := List.take_of_length_le (by simp only [List.length_drop]; omega)
              by_cases hmn : m < n
              · have cS := hid (HSYM.out wr a m n D1 (R.take k) (R.drop k) [] (by rw [List.append_assoc D1, List.take_append_drop]; simpa using hR) (by simp only [List.length_take, List.length_drop, List.length_nil]; omega) hdl (by simp only [List.length_take]; omega) (by simp only [List.length_drop]; omega) (by simp only [List.length_take]; omega) (by simp only [List.length_drop]; omega) r1 (by have h := r2; rw [hTk] at h; exact h) (by have h := r3; rw [hTk] at h; exact h))
                have HNX := hid (fun (U : List Tg) (h1 : U.Perm (R.take k ++ R.drop k)) (h2 : U.Pairwise tl) => HS3.out.fin HK.out (by rw [List.take_append_drop] at h1; exact h1) h2 (by omega))
                have b2 : (m : Int) < (n : Int) := by omega
                have HKN := hid (show k < n ∧ 2 * k = kk from ⟨hkn, hKK⟩)
                clear hS hR hC hab hl2 hdl hN hK hKK r1 r2 r3 hm hbn hTk
                go_wp2_with fail
                refine cS.out.mono ?_
                rintro _ w6 ⟨rfl, U6, u1, u2, u3, u4⟩
                have HF6 := hid (show Good kk (D1 ++ U6) ∧ (D1 ++ U6).Perm L ∧ RowT w6 g (D1 ++ U6) Z ∧ Chg (· = g) w w6 from ⟨by have := (HNX.out U6 u1 u2).1; rw [HKN.out.2] at this; exact this, (HNX.out U6 u1 u2).2, by simpa using u3, HC3.out.trans' u4⟩)
                clear u1 u2 u3 u4 cS HNX
                go_wp2_with fail
                go_roundw
                case rel => exact ⟨kk, D1 ++ U6, by go_num, by have := HKN.out; have := HK.out; omega, by have := HKN.out; omega, HF6.out⟩
                case measure => have := HKN.out; have := HK.out; simp [intOf]; omega
              · have hRs : R.Pairwise tl := by have h := r1; rw [List.take_of_length_le (by omega)] at h; exact h
                have HF6 := hid (show Good kk (D1 ++ R) ∧ (D1 ++ R).Perm L ∧ RowT wr g (D1 ++ R) Z ∧ Chg (· = g) w wr from ⟨by have := (hS.fin HK.out (List.Perm.refl R) hRs (by omega)).1; rw [hKK] at this; exact this, hS.perm, hR, hC⟩)
                have b2 : ¬ (m : Int) < (n : Int) := by omega
                have HKN := hid (show k < n ∧ 2 * k = kk from ⟨hkn, hKK⟩)
                clear hS hR hC hab hl2 hdl hN hK hKK r1 r2 r3 hm hbn hRs hTk
                go_wp2_with fail
                go_roundw
                case rel => exact ⟨kk, D1 ++ R, by go_num, by have := HKN.out; have := HK.out; omega, by have := HKN.out; omega, HF6.out⟩
                case measure => have := HKN.out; have := HK.out; simp [intOf]; omega
        · have HFIN := hid (show StbPost g Z L w (.returned (.tuple #[])) wr from ⟨rfl, E, hP, hG.all (by omega), hR, hC⟩)
          have c3 : ¬ (k : Int) < (n : Int) := by omega
          clear hG hP hR hC hN hEl hkn
          go_wp2_with fail
          go_returns
          exact HFIN.out

theorem st_sortStable {w : World} {g cap n : Nat} {L : List Tg} {Z : List Value} (H : RowT w g L Z) (hn : L.length = n) (hL : Tags L) (hc : n ≤ cap) (hcm : n ≤ 4000000000000000000 ∧ cap ≤ 9223372036854775807) (hnm : n ≤ 1000000000) :
    Calls Try.prog 39 #[.slice (some ⟨g, 0, none⟩) n cap, .func (.func 40) #[] #[]] w (StbPost g Z L w) := by
  have c1 := hid (st_stable H hn hL hc hcm hnm)
  clear H hn hL
  go_enter Try.func39, Try.ntmps39
  go_wp2_with fail
  refine c1.out.mono ?_
  rintro _ w5 ⟨rfl, h⟩
  have HF := hid h
  clear h c1
  go_wp2_with fail
  go_returns
  exact ⟨rfl, HF.out⟩

end Go.Proofs.Ytcchjljdhjkmeaa
