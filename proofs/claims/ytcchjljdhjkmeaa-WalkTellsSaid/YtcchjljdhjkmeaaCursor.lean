/-
  The walker of routes: begun, its next ones, how many are left. No condition but that there are no more than a million routes.
-/
import Derived.Test.YtcchjljdhjkmeaaWalkSorted
namespace Go.Proofs.Ytcchjljdhjkmeaa
open Go.RowKit
set_option linter.unusedVariables false
set_option linter.unusedSimpArgs false
set_option maxRecDepth 100000

/-- A walker with these routes left. -/
def CurA (w : World) (g : Nat) (l : List Rt) : Prop := ∃ v, Blk w g 71 [v] ∧ Rd rtEn 4 w v l ∧ ∀ z, v.ownBlock = some z → z ≠ g
theorem CurA.chg {w w' : World} {g : Nat} {l : List Rt} (h : CurA w g l) (k : Below w.heap.size w w') : CurA w' g l :=
  let ⟨v, h1, h2, h3⟩ := h; ⟨v, h1.below' k, h2.below rtEn_length k, h3⟩
theorem CurA.lt {w : World} {g : Nat} {l : List Rt} (h : CurA w g l) : g < w.heap.size := let ⟨v, h1, _⟩ := h; h1.lt

theorem OwnRts.chg {w w' w'' : World} {l : List Rt} {v : Value} {S : Nat → Prop} (h : OwnRts w l w' v) (k : Chg S w' w'') (hS : ∀ g, v.ownBlock = some g → ¬ S g) : OwnRts w l w'' v := Owns.chg h k hS
def StartPost (w : World) (l : List Rt) (e : Ending) (w' : World) : Prop := ∃ g, e = .returned (.pointer (some ⟨g, 0, none⟩)) ∧ CurA w' g l ∧ w.heap.size ≤ g ∧ Below w.heap.size w w'
theorem walk_start (w : World) (v : Value) (l : List Rt) (hR : Rd rtEn 4 w v l) (hlen : l.length ≤ 1000000) : Calls Try.prog 14 #[v] w (StartPost w (sortedL l)) := by
  have c0 := hid (walk_sorted w v l hR hlen)
  clear hR
  go_enter Try.func14, Try.ntmps14
  go_wp2_with fail
  refine c0.out.mono ?_
  rintro _ w1 ⟨v1, rfl, hO, hB⟩
  obtain ⟨A1, k1, rfl⟩ := hO.form
  generalize hn : (sortedL l).length = n1 at hO
  have HF := hid (show ∀ o, o = Obj.cells #[.slice A1 n1 k1] 71 (0, 0) → CurA (w1.alloc o) w1.heap.size (sortedL l) ∧ Below w.heap.size w (w1.alloc o) from fun o ho =>
    ⟨⟨.slice A1 n1 k1, by rw [ho]; exact Blk.new w1 [.slice A1 n1 k1] _, hO.rd.below rtEn_length ((Below.refl _ _).alloc (Nat.le_refl _) _), fun z hz => by have := (Owns.base_le hO z hz).2; omega⟩, hB.alloc hB.size _⟩)
  have HS := hid hB.size
  clear hO hB c0 hn
  go_wp2_with fail
  go_ret
  exact ⟨_, rfl, (HF.out _ rfl).1, HS.out, (HF.out _ rfl).2⟩

theorem cur_left {w : World} {g : Nat} {l : List Rt} (H : CurA w g l) : Calls Try.prog 16 #[.pointer (some ⟨g, 0, none⟩)] w fun e w' => e = .returned (.int .i64 (l.length : Int)) ∧ w = w' := by
  obtain ⟨v, h1, h2, _⟩ := H
  obtain ⟨A, cap, rfl, n1, m1⟩ := h2.form
  have hc : w.cell? ⟨g, 0, none⟩ = some (.slice A l.length cap) := h1.cellv rfl
  generalize l.length = n at *
  clear h1 h2 n1 m1
  go_enter Try.func16, Try.ntmps16
  go_wp2_with fail
  go_ret
  exact ⟨rfl, rfl⟩

def NextPost (w : World) (g : Nat) (l : List Rt) (k : Nat) (e : Ending) (w' : World) : Prop := ∃ v, e = .returned v ∧ OwnRts w (l.take k) w' v ∧ CurA w' g (l.drop k) ∧ Chg (· = g) w w'
set_option maxHeartbeats 1000000 in
theorem cur_next {w : World} {g : Nat} {l : List Rt} (H : CurA w g l) (hl : l.length ≤ 1000000) (n : Int) (k : Nat) (hk : (k : Int) = max 0 (min n l.length)) :
    Calls Try.prog 17 #[.pointer (some ⟨g, 0, none⟩), .int .i64 n] w (NextPost w g l k) := by
  have c0 := hid (cur_left H)
  have HH := hid H
  obtain ⟨v, h1, h2, h3⟩ := H
  obtain ⟨A, cap, rfl, n1, m1⟩ := h2.form
  obtain ⟨N, hN⟩ : ∃ N, l.length = N := ⟨_, rfl⟩
  obtain ⟨m, hm⟩ : ∃ m : Int, m = if (N : Int) < n then (N : Int) else n := ⟨_, rfl⟩
  have hk2 : (k : Int) = if 0 < m then m else 0 := by rw [hN] at hk; split at hm <;> split <;> omega
  have hkN : k ≤ N := by rw [hN] at hk; omega
  have e1 := min_at .i64 n N m hm
  have e2 := max_at .i64 0 m k hk2
  have hc := h1.cellv (i := 0) rfl
  rw [hN] at n1
  unfold maxLen at m1
  have HN := hid hN
  have H1 := hid h1
  have H2 := hid h2
  have H3 := hid h3
  rw [hN] at c0 hc
  clear hm hk2 hk h1 h2 h3 hN
  cases k with
  | zero =>
    have e3 : (((0 : Nat) : Int)) = 0 := rfl
    rw [e3] at e2
    go_enter Try.func17, Try.ntmps17
    go_wp2_with fail
    refine c0.out.mono ?_
    rintro _ w1 ⟨rfl, rfl⟩
    go_wp2_with fail
    go_ret
    exact ⟨_, rfl, Owns.nil _ _ _ _, HH.out, Chg.refl _ _⟩
  | succ j =>
    obtain ⟨k, hk⟩ : ∃ k, j + 1 = k := ⟨_, rfl⟩
    rw [hk] at e2 hkN ⊢
    have hk0 : 0 < k := by omega
    have hA : ∃ b o, A = some ⟨b, o, none⟩ := by
      obtain ⟨A', c', e, _, _, hrow, _⟩ := H2.out
      injection e with e _ _
      subst e
      obtain ⟨b, o, hA, _⟩ := hrow 0 (by have := HN.out; omega)
      exact ⟨b, o, hA⟩
    obtain ⟨b, o, rfl⟩ := hA
    have hkl : k ≤ l.length := by rw [HN.out]; exact hkN
    have c1 := hid (st_clone w _ (l.take k) (H2.out.takeS k hkl) (by rw [List.length_take]; omega))
    have f0 : (0 : Int) ≤ (k : Int) := by omega
    have f1 : (k : Int) ≤ (cap : Int) := by omega
    have f2 : ¬ (k : Int) = 0 := by omega
    have f3 : (k : Int) ≤ (N : Int) := by omega
    have f4 : (N : Int) ≤ (cap : Int) := by omega
    have f5 : ((k : Int) == 0) = false := by rw [beq_eq_false_iff_ne]; exact f2
    clear hk hk0 hkl
    go_enter Try.func17, Try.ntmps17
    go_wp2_with fail
    refine c0.out.mono ?_
    rintro _ w1 ⟨rfl, rfl⟩
    go_wp2_with fail
    refine c1.out.mono ?_
    rintro _ w2 ⟨v2, rfl, hO2, hB2⟩
    have hc2 : w2.cell? ⟨g, 0, none⟩ = some (.slice (some ⟨b, o, none⟩) N cap) := (hB2.cell (p := ⟨g, 0, none⟩) H1.out.lt).trans hc
    have hf2 : w2.frozen? ⟨g, 0, none⟩ = false := (H1.out.below' hB2).frozen 0
    have HB2 := hid hB2
    have HO2 := hid hO2
    obtain ⟨A2, cap2, rfl⟩ := hO2.form
    have hl2 : (l.take k).length = k := by rw [List.length_take, HN.out]; omega
    have HL2 := hid hl2
    rw [hl2]
    rw [hl2] at HO2
    clear hB2 hc hO2 c0 c1 hl2
    by_cases hcap : cap = k
    · subst hcap
      have HF := hid (show NextPost w g l cap (.returned (.slice A2 cap cap2)) (w2.setCell ⟨g, 0, none⟩ (.slice (some ⟨b, o, none⟩) 0 0)) from by
        have hlN : l.drop cap = [] := List.drop_of_length_le (by rw [HN.out]; omega)
        refine ⟨_, rfl, OwnRts.chg HO2.out (Chg.store w2 g 0 _) (fun z hz e => ?_), ⟨.slice (some ⟨b, o, none⟩) 0 0, by simpa using (H1.out.below' HB2.out).set 0 (.slice (some ⟨b, o, none⟩) 0 0), ?_, fun z hz => H3.out z hz⟩, (Chg.of_below HB2.out _).trans' (Chg.store w2 g 0 _)⟩
        · have := (Owns.base_le HO2.out z hz).1; have := H1.out.lt; omega
        · rw [hlN]; exact Rd.empty _ (some ⟨b, o, none⟩) 0 (by unfold maxLen; omega) (fun _ => rfl))
      go_wp2_with fail
      go_ret
      exact HF.out
    · have HF := hid (show NextPost w g l k (.returned (.slice A2 k cap2)) (w2.setCell ⟨g, 0, none⟩ (.slice (some ⟨b, o + k * 4, none⟩) (N - k) (cap - k))) from by
        have hd := H2.out.dropS k (by rw [HN.out]; exact hkN)
        rw [HN.out] at hd
        refine ⟨_, rfl, OwnRts.chg HO2.out (Chg.store w2 g 0 _) (fun z hz e => ?_), ⟨.slice (some ⟨b, o + k * 4, none⟩) (N - k) (cap - k), by simpa using (H1.out.below' HB2.out).set 0 (.slice (some ⟨b, o + k * 4, none⟩) (N - k) (cap - k)), (hd.below rtEn_length HB2.out).chg rtEn_length (Chg.store w2 g 0 _) (fun z hz e => ?_), fun z hz => H3.out z hz⟩, (Chg.of_below HB2.out _).trans' (Chg.store w2 g 0 _)⟩
        · have := (Owns.base_le HO2.out z hz).1; have := H1.out.lt; omega
        · exact H3.out z hz e)
      go_wp2_with fail
      go_ret
      exact HF.out

end Go.Proofs.Ytcchjljdhjkmeaa
